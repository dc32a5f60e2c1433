/-
  suturelaw01.CrcParts: a sum does not hang on how bytes are cut.
  Conditions: none.
-/
import Derived.Test.YtmkbchhmeaefeaaCrc6
import Derived.Test.YtmkbchhmeaefeaaPlan
namespace Suture
open Go Go.RowKit Go.Proofs

set_option maxHeartbeats 1000000 in
set_option maxRecDepth 100000 in
theorem crcParts_long (a : Option Addr) (n cap : Nat) (at0 to0 : Int) (w : World) (hn : 3000 < n) (hb : n ≤ 9223372036854775807) :
    Calls Try.prog 3 #[.slice a n cap, .int .i64 at0, .int .i64 to0] w fun e w' => e = .returned (.bool true) ∧ Agrees All w w' := by
  go_enter Try.func3, Try.ntmps3
  go_wp2_with (go_at_call 12; refine (wakes01_calls _).mono ?_; rintro e w2 ⟨rfl, hag2⟩)
  go_ret
  exact ⟨rfl, hag2⟩

theorem tmod_range (x : Int) (m : Nat) (hm : 0 < m) : -(m : Int) < x.tmod m ∧ x.tmod m < m := by
  have h1 := Int.tmod_lt_of_pos x (show (0 : Int) < m by omega)
  have h2 := Int.lt_tmod_of_pos x (show (0 : Int) < m by omega)
  omega
theorem place_of (n : Nat) (x : Int) (hn : n ≤ 3000) : ∃ k : Nat, k ≤ n ∧ (wrap64 (wrap64 (x.tmod ((n : Int) + 1) + n) + 1)).tmod ((n : Int) + 1) = k := by
  have h := tmod_range x (n + 1) (by omega)
  rw [show (((n + 1 : Nat) : Int)) = (n : Int) + 1 by omega] at h
  have e : wrap64 (wrap64 (x.tmod ((n : Int) + 1) + n) + 1) = x.tmod ((n : Int) + 1) + n + 1 := by
    unfold wrap64; omega
  rw [e]
  have h2 := tmod_range (x.tmod ((n : Int) + 1) + n + 1) (n + 1) (by omega)
  rw [show (((n + 1 : Nat) : Int)) = (n : Int) + 1 by omega] at h2
  have h3 : 0 ≤ (x.tmod ((n : Int) + 1) + n + 1).tmod ((n : Int) + 1) := Int.tmod_nonneg _ (by omega)
  exact ⟨((x.tmod ((n : Int) + 1) + n + 1).tmod ((n : Int) + 1)).toNat, by omega, by omega⟩
theorem upto_of (n k : Nat) (x : Int) (hn : n ≤ 3000) (hk : k ≤ n) : ∃ m : Nat, k + m ≤ n ∧ (wrap64 (wrap64 (wrap64 (x.tmod ((n : Int) - k + 1) + n) - k) + 1)).tmod ((n : Int) - k + 1) = m := by
  have h := tmod_range x (n - k + 1) (by omega)
  rw [show (((n - k + 1 : Nat) : Int)) = (n : Int) - k + 1 by omega] at h
  have e : wrap64 (wrap64 (wrap64 (x.tmod ((n : Int) - k + 1) + n) - k) + 1) = x.tmod ((n : Int) - k + 1) + n - k + 1 := by
    unfold wrap64; omega
  rw [e]
  have h2 := tmod_range (x.tmod ((n : Int) - k + 1) + n - k + 1) (n - k + 1) (by omega)
  rw [show (((n - k + 1 : Nat) : Int)) = (n : Int) - k + 1 by omega] at h2
  have h3 : 0 ≤ (x.tmod ((n : Int) - k + 1) + n - k + 1).tmod ((n : Int) - k + 1) := Int.tmod_nonneg _ (by omega)
  exact ⟨((x.tmod ((n : Int) - k + 1) + n - k + 1).tmod ((n : Int) - k + 1)).toNat, by omega, by omega⟩

theorem sum_one (w : World) (a : Option Addr) (n cap : Nat) (bs : List (BitVec 8)) (t : TypeId) (hv : BytesAt All w (.slice a n cap) bs) :
    Calls Try.prog 13 #[.slice (some ⟨w.heap.size, 0, none⟩) 1 1] (w.alloc (.cells #[.slice a n cap] t)) fun e w' => e = .returned (U (sum bs)) ∧ Agrees All w w' := by
  have hA : Agrees All w (w.alloc (.cells #[.slice a n cap] t)) := (Agrees.refl _ w).alloc _
  refine (sum_calls _ _ _ [bs] _ (parts_one _ _ w.heap.size n cap a bs (by simp) (by simp) (by rw [cell_of_row _ _ _ _ _ _ (World.alloc_heap_new w _)]; rfl) (SliceAt.bound (hv.agrees hA fun _ h => h)))).mono ?_
  rintro e w' ⟨rfl, h⟩
  exact ⟨by simp, hA.trans h⟩

/-- the four parts -/
def partsObj (a : Option Addr) (n cap k m : Nat) : Obj := .cells #[.slice (slA a 0 cap) (k - 0) (cap - 0), .slice none 0 0, .slice (slA a k cap) (k + m - k) (cap - k), .slice (slA a (k + m) cap) (n - (k + m)) (cap - (k + m))] 22

theorem bytesAt_nil (R : Nat → Prop) (w : World) : BytesAt R w (.slice none 0 0) [] := ⟨_, 0, 0, rfl, rfl, by omega, fun i x hx => by simp at hx⟩

theorem sum_four (W0 : World) (a : Option Addr) (n cap k m : Nat) (bs : List (BitVec 8)) (hv : BytesAt All W0 (.slice a n cap) bs) (hkm : k + m ≤ n) :
    ∀ W, W = W0.alloc (partsObj a n cap k m) → Calls Try.prog 13 #[.slice (some ⟨W0.heap.size, 0, none⟩) 4 4] W fun e w' => e = .returned (U (sum bs)) ∧ Agrees All W0 w' := by
  intro W hW
  have hA : Agrees All W0 W := by rw [hW]; exact (Agrees.refl _ W0).alloc _
  have hv' := hv.agrees hA fun _ h => h
  have hlen := hv.len
  have hs : W.heap.size = W0.heap.size + 1 := by rw [hW]; simp
  have hrow : W.heap[W0.heap.size]? = some (partsObj a n cap k m) := by rw [hW]; exact World.alloc_heap_new W0 _
  have b1 := BytesAt.bound (hv'.slice 0 k (by omega) (by omega))
  have b2 := BytesAt.bound (hv'.slice k (k + m) (by omega) (by omega))
  have b3 := BytesAt.bound (hv'.slice (k + m) n (by omega) (by omega))
  have hP : PartsAt (fun b => b < W.heap.size) W (.slice (some ⟨W0.heap.size, 0, none⟩) 4 4) [(bs.drop 0).take (k - 0), [], (bs.drop k).take (k + m - k), (bs.drop (k + m)).take (n - (k + m))] := by
    refine ⟨[.slice (slA a 0 cap) (k - 0) (cap - 0), .slice none 0 0, .slice (slA a k cap) (k + m - k) (cap - k), .slice (slA a (k + m) cap) (n - (k + m)) (cap - (k + m))], ⟨_, 4, 4, rfl, rfl, by omega, fun i x hx => ⟨W0.heap.size, 0, rfl, by omega, by omega, ?_⟩⟩, rfl, ?_⟩
    · rw [Nat.zero_add, cell_of_row W _ _ _ _ _ hrow, List.getElem?_toArray]; exact hx
    · intro i x p hx hp
      match i, hx, hp with
      | 0, hx, hp => obtain rfl := Option.some.inj hx; obtain rfl := Option.some.inj hp; exact b1
      | 1, hx, hp => obtain rfl := Option.some.inj hx; obtain rfl := Option.some.inj hp; exact bytesAt_nil _ _
      | 2, hx, hp => obtain rfl := Option.some.inj hx; obtain rfl := Option.some.inj hp; exact b2
      | 3, hx, hp => obtain rfl := Option.some.inj hx; obtain rfl := Option.some.inj hp; exact b3
      | (j + 4), hx, hp => simp at hx
  refine (sum_calls _ _ _ _ W hP).mono ?_
  rintro e w' ⟨rfl, h⟩
  refine ⟨?_, hA.trans h⟩
  congr 3
  have e1 : (bs.drop (k + m)).take (n - (k + m)) = bs.drop (k + m) := List.take_of_length_le (by simp; omega)
  have e2 : (bs.drop k).take (k + m - k) ++ bs.drop (k + m) = bs.drop k := by
    have := List.take_append_drop (k + m - k) (bs.drop k)
    rwa [List.drop_drop, show k + (k + m - k) = k + m by omega] at this
  simp only [List.flatten_cons, List.flatten_nil, List.append_nil, List.nil_append, List.drop_zero, Nat.sub_zero]
  rw [e1, e2, List.take_append_drop]

def vParts (W0 : World) (a : Option Addr) (n cap k m : Nat) (bs : List (BitVec 8)) : Nat → Value → Prop
  | 0, v => v = .slice a n cap
  | 1, v => v = .int .i64 (k : Int)
  | 2, v => v = .slice (slA a 0 cap) (k - 0) (cap - 0)
  | 3, v => v = .slice a n cap
  | 4, v => v = .int .i64 (k : Int)
  | 5, v => v = .int .i64 (k : Int)
  | 6, v => v = .int .i64 (m : Int)
  | 7, v => v = .int .i64 ((k : Int) + (m : Int))
  | 8, v => v = .slice (slA a k cap) (k + m - k) (cap - k)
  | 9, v => v = .slice a n cap
  | 10, v => v = .int .i64 (k : Int)
  | 11, v => v = .int .i64 (m : Int)
  | 12, v => v = .int .i64 ((k : Int) + (m : Int))
  | 13, v => v = .slice (slA a (k + m) cap) (n - (k + m)) (cap - (k + m))
  | 14, v => v = .slice (some ⟨W0.heap.size, 0, none⟩) 4 4
  | 15, v => v = U (sum bs)
  | 16, v => v = U (sum bs)
  | 17, v => v = .bool false
  | _, _ => True

def wiParts (W0 : World) (a : Option Addr) (n cap k m : Nat) (L : Nat → Bool) (_ : Nat → Value) (w : World) : Prop :=
  (L 14 = false → L 15 = false ∧ W0 = w) ∧ (L 14 = true → L 15 = false → W0.alloc (partsObj a n cap k m) = w) ∧ (L 15 = true → Agrees All W0 w)

set_option maxHeartbeats 4000000 in
set_option maxRecDepth 100000 in
theorem crcParts_short (a : Option Addr) (n cap : Nat) (bs : List (BitVec 8)) (at0 to0 : Int) (w : World) (hn : n ≤ 3000) (hv : BytesAt All w (.slice a n cap) bs) :
    Calls Try.prog 3 #[.slice a n cap, .int .i64 at0, .int .i64 to0] w fun e w' => e = .returned (.bool true) ∧ Agrees All w w' := by
  obtain ⟨k, hk, hat⟩ := place_of n at0 hn
  obtain ⟨m, hm, hto⟩ := upto_of n k to0 hn hk
  have hcap := hv.cap
  go_enter Try.func3, Try.ntmps3
  go_wp2_with fail
  refine (sum_one w a n cap bs _ hv).mono ?_
  rintro e w1 ⟨rfl, hag1⟩
  go_wp2_with fail
  clear hat hto
  have hv1 : BytesAt All w1.drew (.slice a n cap) bs := BytesAt.agrees hv (hag1.drew) fun _ h => h
  have hsum := sum_four w1.drew a n cap k m bs hv1 hm
  have hag1' := hag1.drew
  generalize hW0 : w1.drew = W0 at hv1 hsum hag1'
  refine wp_region_plan (by kernel_rfl) ?hok (by kernel_rfl) (vParts W0 a n cap k m bs) (wiParts W0 a n cap k m) ?h0 ?steps ?hend
  case hok => kernel_rfl
  case h0 => exact fun vals => ⟨fun _ => ⟨rfl, hW0.symm⟩, fun h => (by cases h), fun h => (by cases h)⟩
  case steps =>
    have hok : True := trivial
    intro i hi
    have hi' : i < 18 := hi
    match i, hi' with
    | 0, _ =>
      refine steps_of rfl ?_
      intro L aq wq hL hd st wi
      have o0 := st.outside (t := 0) rfl (v := .slice a n cap) rfl
      exact opTo_val (v := .slice a n cap) rfl (ex_move (.inl rfl) (eval_tmp o0)) ⟨(fun h => by cases h), rfl, wi⟩
    | 1, _ =>
      refine steps_of rfl ?_
      intro L aq wq hL hd st wi
      have o1 := st.outside (t := 1) rfl (v := .int .i64 (k : Int)) rfl
      exact opTo_val (v := .int .i64 (k : Int)) rfl (ex_move (.inl rfl) (eval_tmp o1)) ⟨(fun h => by cases h), rfl, wi⟩
    | 2, _ =>
      refine steps_of rfl ?_
      intro L aq wq hL hd st wi
      obtain ⟨u0, e0, V0⟩ := st.val 0 _ _ rfl rfl (hd ⟨0, .data⟩ (by simp) rfl)
      obtain rfl : u0 = .slice a n cap := V0
      obtain ⟨u1, e1, V1⟩ := st.val 1 _ _ rfl rfl (hd ⟨1, .data⟩ (by simp) rfl)
      obtain rfl : u1 = .int .i64 (k : Int) := V1
      exact opTo_val (v := .slice (slA a 0 cap) (k - 0) (cap - 0)) rfl (ex_slice rfl Try.underlying22 (by kernel_rfl) a n cap 0 k (eval_tmp e0) (.inr ⟨rfl, rfl⟩) (.inl (by simp [Act.eval, e1])) (by omega) (by omega)) ⟨(fun h => by cases h), rfl, wi⟩
    | 3, _ =>
      refine steps_of rfl ?_
      intro L aq wq hL hd st wi
      have o0 := st.outside (t := 0) rfl (v := .slice a n cap) rfl
      exact opTo_val (v := .slice a n cap) rfl (ex_move (.inl rfl) (eval_tmp o0)) ⟨(fun h => by cases h), rfl, wi⟩
    | 4, _ =>
      refine steps_of rfl ?_
      intro L aq wq hL hd st wi
      have o1 := st.outside (t := 1) rfl (v := .int .i64 (k : Int)) rfl
      exact opTo_val (v := .int .i64 (k : Int)) rfl (ex_move (.inl rfl) (eval_tmp o1)) ⟨(fun h => by cases h), rfl, wi⟩
    | 5, _ =>
      refine steps_of rfl ?_
      intro L aq wq hL hd st wi
      have o1 := st.outside (t := 1) rfl (v := .int .i64 (k : Int)) rfl
      exact opTo_val (v := .int .i64 (k : Int)) rfl (ex_move (.inl rfl) (eval_tmp o1)) ⟨(fun h => by cases h), rfl, wi⟩
    | 6, _ =>
      refine steps_of rfl ?_
      intro L aq wq hL hd st wi
      have o2 := st.outside (t := 2) rfl (v := .int .i64 (m : Int)) rfl
      exact opTo_val (v := .int .i64 (m : Int)) rfl (ex_move (.inl rfl) (eval_tmp o2)) ⟨(fun h => by cases h), rfl, wi⟩
    | 7, _ =>
      refine steps_of rfl ?_
      intro L aq wq hL hd st wi
      obtain ⟨u5, e5, V5⟩ := st.val 5 _ _ rfl rfl (hd ⟨5, .data⟩ (by simp) rfl)
      obtain rfl : u5 = .int .i64 (k : Int) := V5
      obtain ⟨u6, e6, V6⟩ := st.val 6 _ _ rfl rfl (hd ⟨6, .data⟩ (by simp) rfl)
      obtain rfl : u6 = .int .i64 (m : Int) := V6
      exact opTo_val (v := .int .i64 ((k : Int) + (m : Int))) rfl (by have hk2 := hk; have hm2 := hm; have hn2 := hn; simp [go_sem, Act.eval, e5, e6]; rw [IntKind.wrap_i64]; omega) ⟨(fun h => by cases h), rfl, wi⟩
    | 8, _ =>
      refine steps_of rfl ?_
      intro L aq wq hL hd st wi
      obtain ⟨u3, e3, V3⟩ := st.val 3 _ _ rfl rfl (hd ⟨3, .data⟩ (by simp) rfl)
      obtain rfl : u3 = .slice a n cap := V3
      obtain ⟨u4, e4, V4⟩ := st.val 4 _ _ rfl rfl (hd ⟨4, .data⟩ (by simp) rfl)
      obtain rfl : u4 = .int .i64 (k : Int) := V4
      obtain ⟨u7, e7, V7⟩ := st.val 7 _ _ rfl rfl (hd ⟨7, .data⟩ (by simp) rfl)
      obtain rfl : u7 = .int .i64 ((k : Int) + (m : Int)) := V7
      exact opTo_val (v := .slice (slA a k cap) (k + m - k) (cap - k)) rfl (ex_slice rfl Try.underlying22 (by kernel_rfl) a n cap k (k + m) (eval_tmp e3) (.inl (by simp [Act.eval, e4])) (.inl (by simp [Act.eval, e7])) (by omega) (by omega)) ⟨(fun h => by cases h), rfl, wi⟩
    | 9, _ =>
      refine steps_of rfl ?_
      intro L aq wq hL hd st wi
      have o0 := st.outside (t := 0) rfl (v := .slice a n cap) rfl
      exact opTo_val (v := .slice a n cap) rfl (ex_move (.inl rfl) (eval_tmp o0)) ⟨(fun h => by cases h), rfl, wi⟩
    | 10, _ =>
      refine steps_of rfl ?_
      intro L aq wq hL hd st wi
      have o1 := st.outside (t := 1) rfl (v := .int .i64 (k : Int)) rfl
      exact opTo_val (v := .int .i64 (k : Int)) rfl (ex_move (.inl rfl) (eval_tmp o1)) ⟨(fun h => by cases h), rfl, wi⟩
    | 11, _ =>
      refine steps_of rfl ?_
      intro L aq wq hL hd st wi
      have o2 := st.outside (t := 2) rfl (v := .int .i64 (m : Int)) rfl
      exact opTo_val (v := .int .i64 (m : Int)) rfl (ex_move (.inl rfl) (eval_tmp o2)) ⟨(fun h => by cases h), rfl, wi⟩
    | 12, _ =>
      refine steps_of rfl ?_
      intro L aq wq hL hd st wi
      obtain ⟨u10, e10, V10⟩ := st.val 10 _ _ rfl rfl (hd ⟨10, .data⟩ (by simp) rfl)
      obtain rfl : u10 = .int .i64 (k : Int) := V10
      obtain ⟨u11, e11, V11⟩ := st.val 11 _ _ rfl rfl (hd ⟨11, .data⟩ (by simp) rfl)
      obtain rfl : u11 = .int .i64 (m : Int) := V11
      exact opTo_val (v := .int .i64 ((k : Int) + (m : Int))) rfl (by have hk2 := hk; have hm2 := hm; have hn2 := hn; simp [go_sem, Act.eval, e10, e11]; rw [IntKind.wrap_i64]; omega) ⟨(fun h => by cases h), rfl, wi⟩
    | 13, _ =>
      refine steps_of rfl ?_
      intro L aq wq hL hd st wi
      obtain ⟨u9, e9, V9⟩ := st.val 9 _ _ rfl rfl (hd ⟨9, .data⟩ (by simp) rfl)
      obtain rfl : u9 = .slice a n cap := V9
      obtain ⟨u12, e12, V12⟩ := st.val 12 _ _ rfl rfl (hd ⟨12, .data⟩ (by simp) rfl)
      obtain rfl : u12 = .int .i64 ((k : Int) + (m : Int)) := V12
      exact opTo_val (v := .slice (slA a (k + m) cap) (n - (k + m)) (cap - (k + m))) rfl (ex_slice rfl Try.underlying22 (by kernel_rfl) a n cap (k + m) n (eval_tmp e9) (.inl (by simp [Act.eval, e12])) (.inr ⟨rfl, rfl⟩) (by omega) (by omega)) ⟨(fun h => by cases h), rfl, wi⟩
    | 14, _ =>
      refine steps_of rfl ?_
      intro L aq wq hL hd st wi
      obtain ⟨u2, e2, V2⟩ := st.val 2 _ _ rfl rfl (hd ⟨2, .data⟩ (by simp) rfl)
      obtain rfl : u2 = .slice (slA a 0 cap) (k - 0) (cap - 0) := V2
      obtain ⟨u8, e8, V8⟩ := st.val 8 _ _ rfl rfl (hd ⟨8, .data⟩ (by simp) rfl)
      obtain rfl : u8 = .slice (slA a k cap) (k + m - k) (cap - k) := V8
      obtain ⟨u13, e13, V13⟩ := st.val 13 _ _ rfl rfl (hd ⟨13, .data⟩ (by simp) rfl)
      obtain rfl : u13 = .slice (slA a (k + m) cap) (n - (k + m)) (cap - (k + m)) := V13
      obtain ⟨w1, w2, w3⟩ := wi
      obtain ⟨h15, rfl⟩ := w1 hL
      refine opTo_val (v := .slice (some ⟨W0.heap.size, 0, none⟩) 4 4) (w' := W0.alloc (partsObj a n cap k m)) rfl (by simp [go_sem, Act.eval, e2, e8, e13, partsObj]) ⟨(fun h => by cases h), rfl, ?_, ?_, ?_⟩
      · intro h; simp [setL] at h
      · intro _ _; rfl
      · intro h; simp [setL, h15] at h
    | 15, _ =>
      refine steps_of rfl ?_
      intro L aq wq hL hd st wi
      obtain ⟨u14, e14, V14⟩ := st.val 14 _ _ rfl rfl (hd ⟨14, .data⟩ (by simp) rfl)
      obtain rfl : u14 = .slice (some ⟨W0.heap.size, 0, none⟩) 4 4 := V14
      obtain ⟨w1, w2, w3⟩ := wi
      obtain rfl := w2 (hd ⟨14, .data⟩ (by simp) rfl) hL
      refine opTo_call (w' := W0.alloc (partsObj a n cap k m)) (f := 13) (args := #[.slice (some ⟨W0.heap.size, 0, none⟩) 4 4]) rfl (by simp [go_sem, Act.eval, e14]) ((hsum _ rfl).mono ?_)
      rintro e w' ⟨rfl, hag⟩
      refine ⟨_, rfl, (fun h => by cases h), rfl, ?_, ?_, fun _ => hag⟩
      · intro h; have := hd ⟨14, .data⟩ (by simp) rfl; simp [setL, this] at h
      · intro _ h; simp [setL] at h
    | 16, _ =>
      refine steps_of rfl ?_
      intro L aq wq hL hd st wi
      have o7 := st.outside (t := 7) rfl (v := U (sum bs)) rfl
      exact opTo_val (v := U (sum bs)) rfl (ex_move (.inl rfl) (eval_tmp o7)) ⟨(fun h => by cases h), rfl, wi⟩
    | 17, _ =>
      refine steps_of rfl ?_
      intro L aq wq hL hd st wi
      obtain ⟨u15, e15, V15⟩ := st.val 15 _ _ rfl rfl (hd ⟨15, .data⟩ (by simp) rfl)
      obtain rfl : u15 = U (sum bs) := V15
      obtain ⟨u16, e16, V16⟩ := st.val 16 _ _ rfl rfl (hd ⟨16, .data⟩ (by simp) rfl)
      obtain rfl : u16 = U (sum bs) := V16
      exact opTo_val (v := .bool false) rfl (by simp [go_sem, Act.eval, e15, e16]) ⟨(fun h => by cases h), rfl, wi⟩
    | (j + 18), h => omega
  case hend =>
    intro vals w' hV hW
    have hag2 := hW.2.2 rfl
    have x0 : vals 0 = .slice a n cap := hV 0 _ _ rfl rfl
    have x1 : vals 1 = .int .i64 (k : Int) := hV 1 _ _ rfl rfl
    have x2 : vals 2 = .slice (slA a 0 cap) (k - 0) (cap - 0) := hV 2 _ _ rfl rfl
    have x3 : vals 3 = .slice a n cap := hV 3 _ _ rfl rfl
    have x4 : vals 4 = .int .i64 (k : Int) := hV 4 _ _ rfl rfl
    have x5 : vals 5 = .int .i64 (k : Int) := hV 5 _ _ rfl rfl
    have x6 : vals 6 = .int .i64 (m : Int) := hV 6 _ _ rfl rfl
    have x7 : vals 7 = .int .i64 ((k : Int) + (m : Int)) := hV 7 _ _ rfl rfl
    have x8 : vals 8 = .slice (slA a k cap) (k + m - k) (cap - k) := hV 8 _ _ rfl rfl
    have x9 : vals 9 = .slice a n cap := hV 9 _ _ rfl rfl
    have x10 : vals 10 = .int .i64 (k : Int) := hV 10 _ _ rfl rfl
    have x11 : vals 11 = .int .i64 (m : Int) := hV 11 _ _ rfl rfl
    have x12 : vals 12 = .int .i64 ((k : Int) + (m : Int)) := hV 12 _ _ rfl rfl
    have x13 : vals 13 = .slice (slA a (k + m) cap) (n - (k + m)) (cap - (k + m)) := hV 13 _ _ rfl rfl
    have x14 : vals 14 = .slice (some ⟨W0.heap.size, 0, none⟩) 4 4 := hV 14 _ _ rfl rfl
    have x15 : vals 15 = U (sum bs) := hV 15 _ _ rfl rfl
    have x16 : vals 16 = U (sum bs) := hV 16 _ _ rfl rfl
    have x17 : vals 17 = .bool false := hV 17 _ _ rfl rfl
    simp only [putAll, Act.put, List.setIfInBounds_toArray, List.set_cons_succ, List.set_cons_zero, x0, x1, x2, x3, x4, x5, x6, x7, x8, x9, x10, x11, x12, x13, x14, x15, x16, x17]
    have hvw : BytesAt All w' (.slice a n cap) bs := BytesAt.agrees hv1 hag2 fun _ h => h
    have hlen := hvw.len
    have hat := hvw.at.2.2
    have HA := Lib.hid (hag1'.trans hag2)
    have HL := Lib.hid hlen
    clear hlen hag1' hag2 hsum hv1 hV hW hvw hv hag1 hW0
    clear x0 x1 x2 x3 x4 x5 x6 x7 x8 x9 x10 x11 x12 x13 x14 x15 x16 x17
    go_wp2_with fail
    go_loopw [8, 9] (fun c i wr => ∃ j : Nat, j ≤ n ∧ i = .int .i64 j ∧ c = U (sumFrom ones (bs.take j)) ∧ w' = wr) (fun _ i _ => n - (intOf i).toNat)
    case atStart => exact ⟨0, by omega, rfl, U_ones, rfl⟩
    case round =>
      obtain ⟨j, hj, rfl, rfl, rfl⟩ := hrel
      by_cases hlt : j < n
      · obtain ⟨b, off, rfl, _, _, hcell⟩ := hat j hlt
        have hsuc := sumFrom_take_succ ones bs j (by rw [HL.out]; exact hlt)
        have HS := Lib.hid hsuc
        clear hsuc
        generalize hx : bs.getD j 0 = x at hcell
        have HX := Lib.hid hx
        clear hx
        go_wp2_with (go_at_call 14; refine (step_calls _ _ _).mono ?_; rintro e w' ⟨rfl, rfl⟩)
        go_roundw
        case rel =>
          have hR : U (step (sumFrom ones (bs.take j)) x) = U (sumFrom ones (bs.take (j + 1))) := by rw [HS.out, HX.out]
          (repeat apply Exists.intro)
          refine ⟨?rel2, ?fr2⟩
          case fr2 =>
            simp
            repeat (first | exact rfl | refine ⟨rfl, ?_⟩)
          case rel2 => exact ⟨j + 1, by omega, by go_num, hR, (by first | rfl | trivial)⟩
        case measure => simp [intOf]; omega
      · have hjn : bs.take j = bs := List.take_of_length_le (by rw [HL.out]; omega)
        have hfin : (~~~(sumFrom ones (bs.take j)) == sum bs) = true := by rw [hjn]; simp [sum]
        clear hjn
        go_wp2_with (go_at_call 12; refine (wakes01_calls _).mono ?_; rintro e w2 ⟨rfl, hag2⟩)
        go_ret
        exact ⟨rfl, HA.out.trans hag2⟩

theorem crcParts_calls (a : Option Addr) (n cap : Nat) (bs : List (BitVec 8)) (at0 to0 : Int) (w : World) (hv : BytesAt All w (.slice a n cap) bs) :
    Calls Try.prog 3 #[.slice a n cap, .int .i64 at0, .int .i64 to0] w fun e w' => e = .returned (.bool true) ∧ Agrees All w w' := by
  by_cases hn : n ≤ 3000
  · exact crcParts_short a n cap bs at0 to0 w hn hv
  · exact crcParts_long a n cap at0 to0 w (by omega) hv.at.2.1
end Suture
