/-
  PAGES AND THEIR SUMS; small laws that the later walks share.
  Conditions: none beyond each theorem's own.
-/
import Derived.Test.YtmkbchhmeaefeaaDoorCrc3
import Derived.Test.YtmkbchhmeaefeaaDoorEq
import Derived.OwnWalk
namespace Suture
open Go Go.RowKit Go.Proofs

theorem parts_one (R : Nat → Prop) (W : World) (b n cap : Nat) (a : Option Addr) (bs : List (BitVec 8)) (hR : R b) (hb : b < W.heap.size) (hc : W.cell? ⟨b, 0, none⟩ = some (.slice a n cap)) (hv : BytesAt R W (.slice a n cap) bs) :
    PartsAt R W (.slice (some ⟨b, 0, none⟩) 1 1) [bs] := by
  refine ⟨[.slice a n cap], ⟨_, 1, 1, rfl, rfl, by omega, fun i x hx => ?_⟩, rfl, fun i x p hx hp => ?_⟩
  · cases i with
    | zero => simp at hx; subst hx; exact ⟨b, 0, rfl, hR, hb, hc⟩
    | succ i => simp at hx
  · cases i with
    | zero => simp at hx hp; subst hx; subst hp; exact hv
    | succ i => simp at hx
theorem parts_none (R : Nat → Prop) (W : World) : PartsAt R W (.slice none 0 0) [] :=
  ⟨[], ⟨_, 0, 0, rfl, rfl, by omega, fun i x hx => by simp at hx⟩, rfl, fun i x p hx hp => by simp at hx⟩

theorem sum_one (w : World) (a : Option Addr) (n cap : Nat) (bs : List (BitVec 8)) (t : TypeId) (hv : BytesAt All w (.slice a n cap) bs) :
    Calls Tryd.prog 27 #[.slice (some ⟨w.heap.size, 0, none⟩) 1 1] (w.alloc (.cells #[.slice a n cap] t)) fun e w' => e = .returned (U (sum bs)) ∧ Agrees All w w' := by
  have hA : Agrees All w (w.alloc (.cells #[.slice a n cap] t)) := (Agrees.refl _ w).alloc _
  refine (sum_calls _ _ _ [bs] _ (parts_one _ _ w.heap.size n cap a bs (by simp) (by simp) (by rw [cell_of_row _ _ _ _ _ _ (World.alloc_heap_new w _)]; rfl) (SliceAt.bound (hv.agrees hA fun _ h => h)))).mono ?_
  rintro e w' ⟨rfl, h⟩
  exact ⟨by simp, hA.trans h⟩

theorem bytesAt_nil (R : Nat → Prop) (w : World) : BytesAt R w (.slice none 0 0) [] := ⟨_, 0, 0, rfl, rfl, by omega, fun i x hx => by simp at hx⟩

theorem infoU8 : (Tryd.prog.info? 5).map (fun i => (i.zero, i.size, i.bytes)) = some (some (.int .u8 0), 1, 1) := by kernel_rfl
theorem oneU8 : IsOne Tryd.prog 5 := ⟨⟨_, Tryd.underlying5, rfl⟩, by kernel_rfl⟩

theorem Agrees.grown {A W W' : World} {row : Option Nat} (h : Agrees All A W) (g : W.grownBy W' row) (hr : ∀ b, row = some b → A.heap.size ≤ b) : Agrees All A W' :=
  ⟨g.os.trans h.os, g.tape.trans h.tape, g.output.trans h.output, Nat.le_trans h.size g.size, fun b hb _ =>
    (g.block b (Nat.lt_of_lt_of_le hb h.size) (fun e => by have := hr b e.symm; omega)).trans (h.block b hb trivial)⟩
theorem slotV_val {ops : Array Oper} {a : Act} {j : Nat} {o : Oper} {t : Tmp} {v : Value} (h : ops[j]? = some o) (hd : o.dst = some t) (e : a.tmps[t]? = some v) : slotV ops a j = v := by
  rw [slotV_some h hd]; simp [e]
theorem own_bytes {W : World} {base : Nat} {e : TypeId} {v : Value} {n : Nat} {xs : List (BitVec 8)} (h : W.ownsRow base e 1 v n (xs.map B)) : BytesAt All W v xs := by
  obtain ⟨h1, h2⟩ := h
  rcases h2 with ⟨rfl, rfl⟩ | ⟨g, cap, cur, rfl, _, hg, hc, hm, hs, ht⟩
  · have : xs = [] := by simpa using h1
    subst this
    exact bytesAt_nil _ _
  · refine ⟨_, n, cap, rfl, by simpa using h1, by simp only [maxLen] at hm; omega, fun j x hx => ⟨g, 0, rfl, trivial, (Array.getElem?_eq_some_iff.1 hg).1, ?_⟩⟩
    rw [Nat.zero_add, cell_of_row W g _ cur _ _ hg, ← Array.getElem?_toList]
    rw [← ht, List.getElem?_take] at hx
    split at hx
    · exact hx
    · cases hx
theorem binOp_eql_U1 (t : TypeId) (a : BitVec 64) : binOp .eql t (U a) (.int .u64 1) = pure (.bool (a == 1#64)) := binOp_eql_U t a 1#64
theorem binOp_xor_poly (t : TypeId) (a : BitVec 64) : binOp .xor t (U a) (.int .u64 14514072000185962306) = pure (U (a ^^^ poly)) := by
  rw [U_poly]; exact binOp_xor_U t a poly
theorem low_one (c : BitVec 64) : (c &&& 1#64 == 1#64) = c.getLsbD 0 := by
  have h : c &&& 1#64 = if c.getLsbD 0 then 1#64 else 0#64 := by
    apply BitVec.eq_of_getLsbD_eq
    intro i hi
    rw [BitVec.getLsbD_and]
    cases i with
    | zero => cases h : c.getLsbD 0 <;> simp
    | succ i =>
      have e : (1#64).getLsbD (i + 1) = false := by
        simp [BitVec.getLsbD, Nat.testBit, Nat.shiftRight_eq_div_pow]
        have : 1 / 2 ^ (i + 1) = 0 := Nat.div_eq_of_lt (Nat.one_lt_two_pow (by omega))
        omega
      rw [e]; cases c.getLsbD 0 <;> simp [e]
  rw [h]
  cases c.getLsbD 0 <;> rfl
theorem bs_low (c : BitVec 64) : (if (c &&& 1#64 == 1#64) = true then (c >>> 1) ^^^ poly else c >>> 1) = bs c := by
  rw [low_one]
  unfold bs
  cases c.getLsbD 0 <;> simp

attribute [local go_sem] binOp_eql_U1 binOp_xor_poly in
set_option maxHeartbeats 400000 in
theorem refStep_calls (c : BitVec 64) (b : BitVec 8) (w : World) :
    Calls Tryd.prog 28 #[U c, B b] w fun e w' => e = .returned (U (step c b)) ∧ w = w' := by
  go_enter Tryd.func28, Tryd.ntmps28
  go_wp2
  generalize hc0 : c ^^^ b.setWidth 64 = c0
  have HC0 := Lib.hid hc0
  clear hc0
  go_loop [0, 5] (fun c i => ∃ k : Nat, k ≤ 8 ∧ i = .int .i64 k ∧ c = U (rounds k c0)) (fun _ i => 8 - (intOf i).toNat)
  case atStart => exact ⟨0, by omega, rfl, rfl⟩
  case round =>
    obtain ⟨k, hk, rfl, rfl⟩ := hrel
    by_cases hlt : k < 8
    · have hb := bs_low (rounds k c0)
      have HB := Lib.hid hb
      clear hb
      generalize hd : rounds k c0 = d at *
      have HD := Lib.hid hd
      clear hd
      go_wp2
      all_goals
        refine ⟨⟨k + 1, by omega, by simp, ?_⟩, by simp [intOf]; omega⟩
        rw [rounds_succ, HD.out, ← HB.out]
        simp_all
    · obtain rfl : k = 8 := by omega
      go_wp2
      go_ret
      exact ⟨by unfold step; rw [HC0.out]; rfl, rfl⟩

theorem flat_step (parts : List (List (BitVec 8))) (i k : Nat) (hk : k < (parts.getD i []).length) (c : BitVec 64) :
    sumFrom (sumFrom c (parts.take i).flatten) ((parts.getD i []).take (k + 1)) = step (sumFrom (sumFrom c (parts.take i).flatten) ((parts.getD i []).take k)) ((parts.getD i []).getD k 0) := sumFrom_take_succ _ _ _ hk
theorem flat_next (parts : List (List (BitVec 8))) (i : Nat) (hi : i < parts.length) (c : BitVec 64) : sumFrom c (parts.take (i + 1)).flatten = sumFrom (sumFrom c (parts.take i).flatten) (parts.getD i []) := by
  rw [List.take_succ_eq_append_getElem hi, List.flatten_append, sumFrom_append, List.getD_eq_getElem?_getD, List.getElem?_eq_getElem hi]
  simp

set_option maxHeartbeats 1000000 in
set_option maxRecDepth 100000 in
theorem refSum_calls (a : Option Addr) (n cap : Nat) (parts : List (List (BitVec 8))) (w : World) (hv : PartsAt (fun b => b < w.heap.size) w (.slice a n cap) parts) :
    Calls Tryd.prog 20 #[.slice a n cap] w fun e w' => e = .returned (U (sum parts.flatten)) ∧ w = w' := by
  obtain ⟨hlen, hbd, hat⟩ := hv.at
  have HL := Lib.hid hlen
  clear hlen hv
  go_enter Tryd.func20, Tryd.ntmps20
  go_wp2
  rw [U_ones]
  go_loop [3, 4] (fun c v => ∃ i : Nat, i ≤ n ∧ v = .int .i64 i ∧ c = U (sumFrom ones (parts.take i).flatten)) (fun _ v => n - (intOf v).toNat)
  case atStart => exact ⟨0, by omega, rfl, rfl⟩
  case round =>
    obtain ⟨i, hi, rfl, rfl⟩ := hrel
    by_cases hlt : i < n
    · obtain ⟨b, off, a', n', cap', rfl, _, hbl, hc, hby⟩ := hat i hlt
      obtain ⟨hl', hb', hat'⟩ := hby.at
      have HS := Lib.hid (fun k hk => flat_step parts i k hk ones)
      have HN := Lib.hid (flat_next parts i (by rw [HL.out]; exact hlt) ones)
      generalize sumFrom ones (parts.take i).flatten = c0 at *
      generalize parts.getD i [] = q at *
      have HQ := Lib.hid hl'
      clear hl'
      go_wp2
      go_loop [3, 5] (fun c v => ∃ k : Nat, k ≤ n' ∧ v = .int .i64 k ∧ c = U (sumFrom c0 (q.take k))) (fun _ v => n' - (intOf v).toNat)
      case atStart => exact ⟨0, by omega, rfl, rfl⟩
      case round =>
        obtain ⟨k, hk, rfl, rfl⟩ := hrel
        by_cases hkl : k < n'
        · obtain ⟨b2, off2, rfl, _, _, hc2⟩ := hat' k hkl
          have HK := Lib.hid (HS.out k (by rw [HQ.out]; exact hkl))
          generalize q.getD k 0 = x at *
          generalize sumFrom c0 (q.take k) = d at *
          go_wp2_with (go_at_call 28; refine (refStep_calls _ _ _).mono ?_; rintro e w' ⟨rfl, rfl⟩)
          go_round
          case rel => exact ⟨k + 1, by omega, by go_num, by rw [HK.out]⟩
          case measure => simp [intOf]; omega
        · obtain rfl : k = n' := by omega
          go_wp2
          go_round
          case rel => exact ⟨i + 1, by omega, by go_num, by rw [HN.out, List.take_of_length_le (by rw [HQ.out]; omega)]⟩
          case measure => simp [intOf]; omega
    · obtain rfl : i = n := by omega
      go_wp2
      go_ret
      refine ⟨?_, rfl⟩
      rw [List.take_of_length_le (by rw [HL.out]; omega)]
      rfl

/-- a page's value: 256 bytes -/
def pageCells (p : List (BitVec 8)) : Array Value := (p.map B).toArray
theorem pageCells_size (p : List (BitVec 8)) : (pageCells p).size = p.length := by simp [pageCells]
theorem pageCells_get (p : List (BitVec 8)) (i : Nat) (h : i < p.length) : (pageCells p)[i]? = some (B (p.getD i 0)) := by
  unfold pageCells
  rw [List.getElem?_toArray, List.getElem?_map, List.getD_eq_getElem?_getD, List.getElem?_eq_getElem h]; rfl
theorem pageCells_one (p : List (BitVec 8)) : ∀ v ∈ pageCells p, v.oneCell' = true := by
  intro v hv
  simp only [pageCells, List.mem_toArray, List.mem_map] at hv
  obtain ⟨i, _, rfl⟩ := hv
  rfl
theorem pageCells_def (p : List (BitVec 8)) : pageCells p = (p.map B).toArray := rfl
attribute [irreducible] pageCells
theorem isAgg_page : IsAgg Tryd.prog 37 256 := ⟨⟨_, Tryd.underlying37, rfl⟩, by kernel_rfl⟩

/-- a page in a block, as a slice of all its bytes -/
theorem page_bytes (W : World) (b : Nat) (p : List (BitVec 8)) (t : TypeId) (h : W.heap[b]? = some (.cells (pageCells p) t (0, 0))) (hl : p.length = 256) : BytesAt All W (.slice (some ⟨b, 0, none⟩) 256 256) p := by
  refine ⟨_, 256, 256, rfl, by simp [hl], by omega, fun i x hx => ⟨b, 0, rfl, trivial, (Array.getElem?_eq_some_iff.1 h).1, ?_⟩⟩
  rw [Nat.zero_add, cell_of_row W _ _ _ _ _ h]
  have hi : i < p.length := by have := (List.getElem?_eq_some_iff.1 hx).1; simpa using this
  rw [pageCells_get p i hi]
  rw [List.getElem?_map, List.getElem?_eq_getElem hi] at hx
  rw [List.getD_eq_getElem?_getD, List.getElem?_eq_getElem hi]
  exact hx

set_option maxHeartbeats 1000000 in
theorem crcPage_calls (p : List (BitVec 8)) (hl : p.length = 256) (w : World) : Calls Tryd.prog 19 #[.agg (pageCells p)] w fun e w' => e = .returned (U (sum p)) ∧ Agrees All w w' := by
  go_enter Tryd.func19, Tryd.ntmps19
  have hs := sum_one (w.alloc (.cells (pageCells p) 37)) (some ⟨w.heap.size, 0, none⟩) 256 256 p 28 (page_bytes _ _ p _ (World.alloc_heap_new w _) hl)
  rw [World.size_alloc] at hs
  have HS := Lib.hid hs
  clear hs
  go_wp2_with fail
  refine HS.out.mono ?_
  rintro e w' ⟨rfl, hag⟩
  go_wp2_with fail
  go_ret
  exact ⟨rfl, ((Agrees.refl All w).alloc _).trans hag⟩

theorem refSum_one (w : World) (a : Option Addr) (n cap : Nat) (bs : List (BitVec 8)) (t : TypeId) (hv : BytesAt All w (.slice a n cap) bs) :
    Calls Tryd.prog 20 #[.slice (some ⟨w.heap.size, 0, none⟩) 1 1] (w.alloc (.cells #[.slice a n cap] t)) fun e w' => e = .returned (U (sum bs)) ∧ Agrees All w w' := by
  have hA : Agrees All w (w.alloc (.cells #[.slice a n cap] t)) := (Agrees.refl _ w).alloc _
  refine (refSum_calls _ _ _ [bs] _ (parts_one _ _ w.heap.size n cap a bs (by simp) (by simp) (by rw [cell_of_row _ _ _ _ _ _ (World.alloc_heap_new w _)]; rfl) (SliceAt.bound (hv.agrees hA fun _ h => h)))).mono ?_
  rintro e w' ⟨rfl, rfl⟩
  exact ⟨by simp, hA⟩
set_option maxHeartbeats 1000000 in
theorem refPage_calls (p : List (BitVec 8)) (hl : p.length = 256) (w : World) : Calls Tryd.prog 12 #[.agg (pageCells p)] w fun e w' => e = .returned (U (sum p)) ∧ Agrees All w w' := by
  go_enter Tryd.func12, Tryd.ntmps12
  have hs := refSum_one (w.alloc (.cells (pageCells p) 37)) (some ⟨w.heap.size, 0, none⟩) 256 256 p 28 (page_bytes _ _ p _ (World.alloc_heap_new w _) hl)
  rw [World.size_alloc] at hs
  have HS := Lib.hid hs
  clear hs
  go_wp2_with fail
  refine HS.out.mono ?_
  rintro e w' ⟨rfl, hag⟩
  go_wp2_with fail
  go_ret
  exact ⟨rfl, ((Agrees.refl All w).alloc _).trans hag⟩
end Suture
