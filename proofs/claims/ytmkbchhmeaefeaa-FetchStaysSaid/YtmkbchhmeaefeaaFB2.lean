/-
  crc.bytes: what its iterator hands over.
  Conditions: none beyond the slices' own readings.
-/
import Derived.Test.YtmkbchhmeaefeaaFB1
import Derived.Lib.Hide
import Derived.OwnWalk
import Derived.WalkMore
namespace Suture
open Go Go.RowKit Go.Proofs
attribute [local go_sem] Oper.semAt_some

set_option maxHeartbeats 1000000 in
theorem bytes1_iter (R : Nat → Prop) (n₀ : Nat) (w0 : World) (Bx : Nat) (a : Option Addr) (n cap : Nat) (parts : List (List (BitVec 8)))
    (hbox : w0.cell? ⟨Bx, 0, none⟩ = some (.slice a n cap)) (hRB : R Bx) (hB : Bx < w0.heap.size) (hR : ∀ b, R b → b < w0.heap.size) (hv : PartsAt R w0 (.slice a n cap) parts) :
    IterAt Try.prog 50 #[.pointer (some ⟨Bx, 0, none⟩)] (fun k => #[B (parts.flatten.getD k 0)]) parts.flatten.length n₀ R w0 := by
  intro l J Jx C W hag hC hJ hJx hY h0
  refine (callsIn_wide (n := 0)).1 ?_
  have hFn : ∀ f, Fence.wide.fn f := fun _ => trivial
  have hro : Fence.wide.round = none := rfl
  have hdp : Fence.wide.depth = none := rfl
  generalize Fence.wide = F at *
  obtain ⟨hlen, hbd, hat⟩ := hv.at
  have HL := Lib.hid hlen
  clear hlen
  have hbW : W.cell? ⟨Bx, 0, none⟩ = some (.slice a n cap) := (hag.cell (p := ⟨Bx, 0, none⟩) hB hRB).trans hbox
  refine callsIn_of_wp Try.func50 rfl (hFn _) ?_ hro
  simp only [Try.ntmps50, List.size_toArray, List.length_cons, List.length_nil, Nat.reduceAdd, Nat.reduceSub, Array.replicate_succ, Array.replicate_zero, List.push_toArray, List.append_toArray, List.nil_append, List.cons_append]
  gi_wp2
  gi_loopw [9] (fun v wr => ∃ (C : Nat → Prop) (i : Nat), i ≤ n ∧ v = .int .i64 i ∧ J (parts.take i).flatten.length C wr ∧ Agrees R w0 wr ∧ (∀ b, C b → ¬ R b ∧ b < wr.heap.size)) (fun v _ => n - (intOf v).toNat)
  case atStart => exact ⟨C, 0, by omega, rfl, by simpa using h0, hag, hC⟩
  case round =>
    obtain ⟨C, i, hi, rfl, hj, hag, hC⟩ := hrel
    have hle : ∀ j, j < (parts.getD i []).length → i < n → (parts.take i).flatten.length + j < parts.flatten.length := fun j h h' => by
      have := flat_take_le parts i (by rw [HL.out]; exact h'); omega
    by_cases hlt : i < n
    · obtain ⟨b, off, a', n', cap', rfl, hRb, hbl, hcell, hby⟩ := hat i hlt
      obtain ⟨hl', hb', hat'⟩ := hby.at
      have hc : wr.cell? ⟨b, off + i, none⟩ = some (.slice a' n' cap') := (hag.cell (p := ⟨b, off + i, none⟩) hbl hRb).trans hcell
      have HL' := Lib.hid hl'
      clear hl' hcell
      gi_wp2
      obtain ⟨wo, rfl⟩ : ∃ wo : World, wo = wr := ⟨_, rfl⟩
      gi_loopw [15] (fun v wr => ∃ (C : Nat → Prop) (j : Nat), j ≤ n' ∧ v = .int .i64 j ∧ J ((parts.take i).flatten.length + j) C wr ∧ Agrees R w0 wr ∧ (∀ b, C b → ¬ R b ∧ b < wr.heap.size)) (fun v _ => n' - (intOf v).toNat)
      case atStart => exact ⟨C, 0, by omega, rfl, hj, hag, hC⟩
      case round =>
        obtain ⟨C, j, hjn, rfl, hj, hag, hC⟩ := hrel
        by_cases hjlt : j < n'
        · obtain ⟨b2, off2, rfl, hRb2, hbl2, hcell2⟩ := hat' j hjlt
          have hc2 : wr.cell? ⟨b2, off2 + j, none⟩ = some (B ((parts.getD i []).getD j 0)) := (hag.cell (p := ⟨b2, off2 + j, none⟩) hbl2 hRb2).trans hcell2
          obtain ⟨fn, tmps, assign, body, hy, hR'⟩ := hY _ C wr (hle j (by rw [HL'.out]; exact hjlt) hlt) hj (fun b hb => (hC b hb).2)
          rw [flat_get 0 parts i j (by rw [HL.out]; exact hlt) (by rw [HL'.out]; exact hjlt)] at hy
          clear hcell2
          generalize (parts.getD i []).getD j 0 = x at hc2 hy
          gi_wp2
          refine hR'.mono ?_
          rintro e W3 (⟨rfl, hag3, C3, hj3, hC3⟩ | ⟨rfl, hag3, C3, hj3, hC3⟩)
          · gi_wp2
            go_roundw
            case rel => exact ⟨C3, j + 1, by omega, by go_num, hj3, hag.trans' hag3 (fun b hb hr hc => (hC b hc).1 hr), fun b hb => ⟨fun hr => ((hC3 b hb).2.elim (fun h => (hC b h).1 hr) (fun h => by have := hR b hr; have := hag.size; omega)), (hC3 b hb).1⟩⟩
            case measure => simp [intOf]; omega
          · gi_wp2
            refine bodyPost_ret (results_none rfl _ _ _) rfl ?_
            exact ⟨⟨_, rfl⟩, C3, .inr ⟨_, hle j (by rw [HL'.out]; exact hjlt) hlt, hj3⟩⟩
        · obtain rfl : j = n' := by omega
          gi_wp2
          go_roundw
          case rel => exact ⟨C, i + 1, by omega, by go_num, by rw [flat_take_succ parts i (by rw [HL.out]; exact hlt), HL'.out]; exact hj, hag, hC⟩
          case measure => simp [intOf]; omega
    · obtain rfl : i = n := by omega
      gi_wp2
      go_end0
      exact ⟨⟨_, rfl⟩, C, .inl (by rw [List.take_of_length_le (by rw [HL.out]; omega)] at hj; exact hj)⟩
end Suture
/-
  crc.Sum: the sum of the parts, one behind the other.
  Conditions: none beyond the slices' own readings.
-/
namespace Suture
open Go Go.RowKit Go.Proofs
attribute [local go_sem] Oper.semAt_some

theorem bytes_calls (a : Option Addr) (n cap : Nat) (w : World) :
    Calls Try.prog 35 #[.slice a n cap] w fun e w' => e = .returned (.func (.func 50) #[] #[.pointer (some ⟨w.heap.size, 0, none⟩)]) ∧ w.alloc (.cells #[.slice a n cap] 69) = w' := by
  go_enter Try.func35, Try.ntmps35
  go_wp2
  go_ret
  exact ⟨rfl, rfl⟩

theorem take_succ_getD (l : List (BitVec 8)) (k : Nat) (h : k < l.length) : l.take (k + 1) = l.take k ++ [l.getD k 0] := by
  rw [List.take_succ_eq_append_getElem h, List.getD_eq_getElem?_getD, List.getElem?_eq_getElem h]; rfl
theorem sumFrom_take_succ (c : BitVec 64) (l : List (BitVec 8)) (k : Nat) (h : k < l.length) : sumFrom c (l.take (k + 1)) = step (sumFrom c (l.take k)) (l.getD k 0) := by
  rw [take_succ_getD l k h, sumFrom_append]; rfl

set_option maxHeartbeats 1000000 in
theorem sum_calls (a : Option Addr) (n cap : Nat) (parts : List (List (BitVec 8))) (w : World) (hv : PartsAt (fun b => b < w.heap.size) w (.slice a n cap) parts) :
    Calls Try.prog 13 #[.slice a n cap] w fun e w' => e = .returned (U (sum parts.flatten)) ∧ Agrees All w w' := by
  refine (callsIn_wide (n := 0)).1 (callsIn_of_wp_marks Try.func13 rfl trivial (wpIn_wide.2 ?_) rfl)
  simp only [Try.ntmps13, List.size_toArray, List.length_cons, List.length_nil, Nat.reduceAdd, Nat.reduceSub, Array.replicate_succ, Array.replicate_zero, List.push_toArray, List.append_toArray, List.nil_append, List.cons_append]
  go_wp2_with (go_at_call 35; refine (bytes_calls _ _ _ _).mono ?_; rintro e w' ⟨rfl, rfl⟩)
  obtain ⟨w1, hw1⟩ : ∃ w1, w.alloc (.cells #[Value.int .u64 18446744073709551615] 24) = w1 := ⟨_, rfl⟩
  obtain ⟨w2, hw2⟩ : ∃ w2, w1.alloc (.cells #[Value.slice a n cap] 69) = w2 := ⟨_, rfl⟩
  have hs1 : w1.heap.size = w.heap.size + 1 := by rw [← hw1]; simp
  have hs2 : w2.heap.size = w.heap.size + 2 := by rw [← hw2]; simp [hs1]
  have hA : Agrees All w w2 := by rw [← hw2, ← hw1]; exact ((Agrees.refl _ w).alloc _).alloc _
  have hc0 : w2.cell? ⟨w.heap.size, 0, none⟩ = some (U ones) := by rw [← U_ones, ← hw2, ← hw1]; simp [go_sem]
  have hf0 : w2.frozen? ⟨w.heap.size, 0, none⟩ = false := by rw [← hw2, ← hw1]; simp [go_sem]
  have hb0 : w2.cell? ⟨w.heap.size + 1, 0, none⟩ = some (.slice a n cap) := by rw [← hs1, ← hw2]; simp [go_sem]
  rw [hw1, hw2]
  have hbelow : ∀ b, b < w.heap.size → b < w2.heap.size := fun b h => by omega
  have hit := bytes1_iter (fun b => b < w.heap.size ∨ b = w.heap.size + 1) w.heap.size w2 (w.heap.size + 1) a n cap parts hb0 (.inr rfl) (by omega)
    (fun b hb => by omega) ((hv.agrees hA (fun _ _ => trivial)).mono (fun b hb => .inl hb))
  refine wp_rangeFunc_iter rfl (Go.Proofs.enters_of Try.func50 (by kernel_rfl) rfl) hit (Agrees.refl _ _) (fun b hb => by omega) (by omega) (fun _ => rfl)
    (fun b => b = w.heap.size) (fun b hb => ⟨by omega, by omega⟩)
    (fun k C W => C = (fun b => b = w.heap.size) ∧ W.cell? ⟨w.heap.size, 0, none⟩ = some (U (sumFrom ones (parts.flatten.take k))) ∧ W.frozen? ⟨w.heap.size, 0, none⟩ = false ∧ Agrees (fun b => b < w.heap.size) w W ∧ w.heap.size < W.heap.size)
    (fun _ _ _ _ => False) ?stabI ?stabX ⟨rfl, hc0, hf0, hA.weak, by omega⟩
    (fun k => { tmps := #[.slice a n cap, undef, .int .u64 0, .pointer (some ⟨w.heap.size, 0, none⟩), B (parts.flatten.getD k 0), .slice a n cap, .func (.func 50) #[] #[.pointer (some ⟨w.heap.size + 1, 0, none⟩)], B (parts.flatten.getD k 0), undef, undef, undef, undef, undef], defers := [] })
    ?assign ?body ?done ?stop
  case stabI =>
    rintro k C W W' ⟨rfl, h1, h2, h3, h4⟩ hag
    exact ⟨rfl, (hag.cell (p := ⟨w.heap.size, 0, none⟩) h4 (.inl rfl)).trans h1, (hag.frozen (p := ⟨w.heap.size, 0, none⟩) h4 (.inl rfl)).trans h2,
      h3.trans' hag (fun b _ hb => .inr hb), Nat.lt_of_lt_of_le h4 hag.size⟩
  case stabX => exact fun _ _ _ _ _ h _ => h
  case assign =>
    intro l k W K hK
    generalize parts.flatten.getD k 0 = x at *
    gi_wp2
    exact hK
  case body =>
    rintro l k C W hk ⟨rfl, h1, h2, h3, h4⟩ hCW hsz
    have hsuc := sumFrom_take_succ ones parts.flatten k hk
    generalize sumFrom ones (parts.flatten.take k) = c at *
    generalize parts.flatten.getD k 0 = x at *
    have HS := Lib.hid hsuc
    clear hsuc
    gi_wp2_with (refine ⟨trivial, rfl, ?_⟩; gi_at_call 14; refine (CallsIn.inRound l (callsIn_wide.2 (step_calls _ _ _))).mono ?_; rintro e w' ⟨rfl, rfl⟩)
    refine ⟨(Agrees.refl _ W).setCell (.inl (fun h => h rfl)) _, _, ⟨rfl, ?_, ?_, h3.setCell (.inl (Nat.lt_irrefl _)) _, ?_⟩, fun b hb => ⟨?_, .inl hb⟩⟩
    · rw [HS.out]; exact World.cell?_setCell_same' _ _ _ (by rw [h1]; rfl)
    · rw [World.frozen?_setCell]; exact h2
    · simpa [World.setCell] using h4
    · have := hCW b hb; simpa [World.setCell] using this
  case done =>
    rintro D C W hD ⟨rfl, h1, h2, h3, h4⟩ hK hCD
    rw [List.take_length] at h1
    generalize hs : sumFrom ones parts.flatten = c at *
    have HS := Lib.hid hs
    clear hs
    go_wp2
    refine ⟨by simp, .inl ⟨_, _, rfl, run_takeDeferred hK, ?_⟩⟩
    refine ⟨_, results_tmp rfl _ _ _, ?_⟩
    refine ⟨?_, ?_⟩
    · show Ending.returned (U (~~~c)) = _
      unfold sum; rw [HS.out]
    · have h5 : Agrees All w W := ⟨h3.os, h3.tape, h3.output, h3.size, fun b hb _ => h3.block b hb hb⟩
      exact h5.putObj (.inr (by omega)) _
  case stop =>
    rintro D k c C W _ _ h
    exact h.elim
end Suture
/-
  PAGES AND THEIR SUMS; small laws that the later walks share.
  Conditions: none beyond each theorem's own.
-/
namespace Suture
open Go Go.RowKit Go.Proofs

theorem parts_one (R : Nat → Prop) (W : World) (b n cap : Nat) (a : Option Addr) (bs : List (BitVec 8)) (hR : R b) (hb : b < W.heap.size) (hc : W.cell? ⟨b, 0, none⟩ = some (.slice a n cap)) (hv : BytesAt R W (.slice a n cap) bs) :
    PartsAt R W (.slice (some ⟨b, 0, none⟩) 1 1) [bs] := by
  refine ⟨[.slice a n cap], ⟨_, 1, 1, rfl, rfl, by omega, fun i x hx => ?_⟩, rfl, fun i x p hx hp => ?_⟩
  · cases i with
    | zero => simp at hx; subst hx; exact ⟨b, 0, rfl, hR, hb, hc⟩
    | succ i => simp at hx
  · cases i with
    | zero => simp at hx hp; subst hx; subst hp; exact hv
    | succ i => simp at hx
theorem parts_none (R : Nat → Prop) (W : World) : PartsAt R W (.slice none 0 0) [] :=
  ⟨[], ⟨_, 0, 0, rfl, rfl, by omega, fun i x hx => by simp at hx⟩, rfl, fun i x p hx hp => by simp at hx⟩

theorem sum_one (w : World) (a : Option Addr) (n cap : Nat) (bs : List (BitVec 8)) (t : TypeId) (hv : BytesAt All w (.slice a n cap) bs) :
    Calls Try.prog 13 #[.slice (some ⟨w.heap.size, 0, none⟩) 1 1] (w.alloc (.cells #[.slice a n cap] t)) fun e w' => e = .returned (U (sum bs)) ∧ Agrees All w w' := by
  have hA : Agrees All w (w.alloc (.cells #[.slice a n cap] t)) := (Agrees.refl _ w).alloc _
  refine (sum_calls _ _ _ [bs] _ (parts_one _ _ w.heap.size n cap a bs (by simp) (by simp) (by rw [cell_of_row _ _ _ _ _ _ (World.alloc_heap_new w _)]; rfl) (SliceAt.bound (hv.agrees hA fun _ h => h)))).mono ?_
  rintro e w' ⟨rfl, h⟩
  exact ⟨by simp, hA.trans h⟩

theorem bytesAt_nil (R : Nat → Prop) (w : World) : BytesAt R w (.slice none 0 0) [] := ⟨_, 0, 0, rfl, rfl, by omega, fun i x hx => by simp at hx⟩

theorem infoU8 : (Try.prog.info? 5).map (fun i => (i.zero, i.size, i.bytes)) = some (some (.int .u8 0), 1, 1) := by kernel_rfl
theorem oneU8 : IsOne Try.prog 5 := ⟨⟨_, Try.underlying5, rfl⟩, by kernel_rfl⟩

theorem Agrees.grown {A W W' : World} {row : Option Nat} (h : Agrees All A W) (g : W.grownBy W' row) (hr : ∀ b, row = some b → A.heap.size ≤ b) : Agrees All A W' :=
  ⟨g.os.trans h.os, g.tape.trans h.tape, g.output.trans h.output, Nat.le_trans h.size g.size, fun b hb _ =>
    (g.block b (Nat.lt_of_lt_of_le hb h.size) (fun e => by have := hr b e.symm; omega)).trans (h.block b hb trivial)⟩
theorem slotV_val {ops : Array Oper} {a : Act} {j : Nat} {o : Oper} {t : Tmp} {v : Value} (h : ops[j]? = some o) (hd : o.dst = some t) (e : a.tmps[t]? = some v) : slotV ops a j = v := by
  rw [slotV_some h hd]; simp [e]
theorem own_bytes {W : World} {base : Nat} {e : TypeId} {v : Value} {n : Nat} {xs : List (BitVec 8)} (h : W.ownsRow base e 1 v n (xs.map B)) : BytesAt All W v xs := by
  obtain ⟨h1, h2⟩ := h
  rcases h2 with ⟨rfl, rfl⟩ | ⟨g, cap, cur, rfl, _, hg, hc, hm, hs, ht⟩
  · have : xs = [] := by simpa using h1
    subst this
    exact bytesAt_nil _ _
  · refine ⟨_, n, cap, rfl, by simpa using h1, by simp only [maxLen] at hm; omega, fun j x hx => ⟨g, 0, rfl, trivial, (Array.getElem?_eq_some_iff.1 hg).1, ?_⟩⟩
    rw [Nat.zero_add, cell_of_row W g _ cur _ _ hg, ← Array.getElem?_toList]
    rw [← ht, List.getElem?_take] at hx
    split at hx
    · exact hx
    · cases hx
theorem binOp_eql_U1 (t : TypeId) (a : BitVec 64) : binOp .eql t (U a) (.int .u64 1) = pure (.bool (a == 1#64)) := binOp_eql_U t a 1#64
theorem binOp_xor_poly (t : TypeId) (a : BitVec 64) : binOp .xor t (U a) (.int .u64 14514072000185962306) = pure (U (a ^^^ poly)) := by
  rw [U_poly]; exact binOp_xor_U t a poly
theorem low_one (c : BitVec 64) : (c &&& 1#64 == 1#64) = c.getLsbD 0 := by
  have h : c &&& 1#64 = if c.getLsbD 0 then 1#64 else 0#64 := by
    apply BitVec.eq_of_getLsbD_eq
    intro i hi
    rw [BitVec.getLsbD_and]
    cases i with
    | zero => cases h : c.getLsbD 0 <;> simp
    | succ i =>
      have e : (1#64).getLsbD (i + 1) = false := by
        simp [BitVec.getLsbD, Nat.testBit, Nat.shiftRight_eq_div_pow]
        have : 1 / 2 ^ (i + 1) = 0 := Nat.div_eq_of_lt (Nat.one_lt_two_pow (by omega))
        omega
      rw [e]; cases c.getLsbD 0 <;> simp [e]
  rw [h]
  cases c.getLsbD 0 <;> rfl
theorem bs_low (c : BitVec 64) : (if (c &&& 1#64 == 1#64) = true then (c >>> 1) ^^^ poly else c >>> 1) = bs c := by
  rw [low_one]
  unfold bs
  cases c.getLsbD 0 <;> simp

attribute [local go_sem] binOp_eql_U1 binOp_xor_poly in
set_option maxHeartbeats 400000 in
theorem refStep_calls (c : BitVec 64) (b : BitVec 8) (w : World) :
    Calls Try.prog 29 #[U c, B b] w fun e w' => e = .returned (U (step c b)) ∧ w = w' := by
  go_enter Try.func29, Try.ntmps29
  go_wp2
  generalize hc0 : c ^^^ b.setWidth 64 = c0
  have HC0 := Lib.hid hc0
  clear hc0
  go_loop [0, 5] (fun c i => ∃ k : Nat, k ≤ 8 ∧ i = .int .i64 k ∧ c = U (rounds k c0)) (fun _ i => 8 - (intOf i).toNat)
  case atStart => exact ⟨0, by omega, rfl, rfl⟩
  case round =>
    obtain ⟨k, hk, rfl, rfl⟩ := hrel
    by_cases hlt : k < 8
    · have hb := bs_low (rounds k c0)
      have HB := Lib.hid hb
      clear hb
      generalize hd : rounds k c0 = d at *
      have HD := Lib.hid hd
      clear hd
      go_wp2
      all_goals
        refine ⟨⟨k + 1, by omega, by simp, ?_⟩, by simp [intOf]; omega⟩
        rw [rounds_succ, HD.out, ← HB.out]
        simp_all
    · obtain rfl : k = 8 := by omega
      go_wp2
      go_ret
      exact ⟨by unfold step; rw [HC0.out]; rfl, rfl⟩

theorem flat_step (parts : List (List (BitVec 8))) (i k : Nat) (hk : k < (parts.getD i []).length) (c : BitVec 64) :
    sumFrom (sumFrom c (parts.take i).flatten) ((parts.getD i []).take (k + 1)) = step (sumFrom (sumFrom c (parts.take i).flatten) ((parts.getD i []).take k)) ((parts.getD i []).getD k 0) := sumFrom_take_succ _ _ _ hk
theorem flat_next (parts : List (List (BitVec 8))) (i : Nat) (hi : i < parts.length) (c : BitVec 64) : sumFrom c (parts.take (i + 1)).flatten = sumFrom (sumFrom c (parts.take i).flatten) (parts.getD i []) := by
  rw [List.take_succ_eq_append_getElem hi, List.flatten_append, sumFrom_append, List.getD_eq_getElem?_getD, List.getElem?_eq_getElem hi]
  simp

set_option maxHeartbeats 1000000 in
set_option maxRecDepth 100000 in
theorem refSum_calls (a : Option Addr) (n cap : Nat) (parts : List (List (BitVec 8))) (w : World) (hv : PartsAt (fun b => b < w.heap.size) w (.slice a n cap) parts) :
    Calls Try.prog 31 #[.slice a n cap] w fun e w' => e = .returned (U (sum parts.flatten)) ∧ w = w' := by
  obtain ⟨hlen, hbd, hat⟩ := hv.at
  have HL := Lib.hid hlen
  clear hlen hv
  go_enter Try.func31, Try.ntmps31
  go_wp2
  rw [U_ones]
  go_loop [3, 4] (fun c v => ∃ i : Nat, i ≤ n ∧ v = .int .i64 i ∧ c = U (sumFrom ones (parts.take i).flatten)) (fun _ v => n - (intOf v).toNat)
  case atStart => exact ⟨0, by omega, rfl, rfl⟩
  case round =>
    obtain ⟨i, hi, rfl, rfl⟩ := hrel
    by_cases hlt : i < n
    · obtain ⟨b, off, a', n', cap', rfl, _, hbl, hc, hby⟩ := hat i hlt
      obtain ⟨hl', hb', hat'⟩ := hby.at
      have HS := Lib.hid (fun k hk => flat_step parts i k hk ones)
      have HN := Lib.hid (flat_next parts i (by rw [HL.out]; exact hlt) ones)
      generalize sumFrom ones (parts.take i).flatten = c0 at *
      generalize parts.getD i [] = q at *
      have HQ := Lib.hid hl'
      clear hl'
      go_wp2
      go_loop [3, 5] (fun c v => ∃ k : Nat, k ≤ n' ∧ v = .int .i64 k ∧ c = U (sumFrom c0 (q.take k))) (fun _ v => n' - (intOf v).toNat)
      case atStart => exact ⟨0, by omega, rfl, rfl⟩
      case round =>
        obtain ⟨k, hk, rfl, rfl⟩ := hrel
        by_cases hkl : k < n'
        · obtain ⟨b2, off2, rfl, _, _, hc2⟩ := hat' k hkl
          have HK := Lib.hid (HS.out k (by rw [HQ.out]; exact hkl))
          generalize q.getD k 0 = x at *
          generalize sumFrom c0 (q.take k) = d at *
          go_wp2_with (go_at_call 29; refine (refStep_calls _ _ _).mono ?_; rintro e w' ⟨rfl, rfl⟩)
          go_round
          case rel => exact ⟨k + 1, by omega, by go_num, by rw [HK.out]⟩
          case measure => simp [intOf]; omega
        · obtain rfl : k = n' := by omega
          go_wp2
          go_round
          case rel => exact ⟨i + 1, by omega, by go_num, by rw [HN.out, List.take_of_length_le (by rw [HQ.out]; omega)]⟩
          case measure => simp [intOf]; omega
    · obtain rfl : i = n := by omega
      go_wp2
      go_ret
      refine ⟨?_, rfl⟩
      rw [List.take_of_length_le (by rw [HL.out]; omega)]
      rfl

/-- a page's value: 256 bytes -/
def pageCells (p : List (BitVec 8)) : Array Value := (p.map B).toArray
theorem pageCells_size (p : List (BitVec 8)) : (pageCells p).size = p.length := by simp [pageCells]
theorem pageCells_get (p : List (BitVec 8)) (i : Nat) (h : i < p.length) : (pageCells p)[i]? = some (B (p.getD i 0)) := by
  unfold pageCells
  rw [List.getElem?_toArray, List.getElem?_map, List.getD_eq_getElem?_getD, List.getElem?_eq_getElem h]; rfl
theorem pageCells_one (p : List (BitVec 8)) : ∀ v ∈ pageCells p, v.oneCell' = true := by
  intro v hv
  simp only [pageCells, List.mem_toArray, List.mem_map] at hv
  obtain ⟨i, _, rfl⟩ := hv
  rfl
theorem pageCells_def (p : List (BitVec 8)) : pageCells p = (p.map B).toArray := rfl
attribute [irreducible] pageCells
theorem isAgg_page : IsAgg Try.prog 32 256 := ⟨⟨_, Try.underlying32, rfl⟩, by kernel_rfl⟩

/-- a page in a block, as a slice of all its bytes -/
theorem page_bytes (W : World) (b : Nat) (p : List (BitVec 8)) (t : TypeId) (h : W.heap[b]? = some (.cells (pageCells p) t (0, 0))) (hl : p.length = 256) : BytesAt All W (.slice (some ⟨b, 0, none⟩) 256 256) p := by
  refine ⟨_, 256, 256, rfl, by simp [hl], by omega, fun i x hx => ⟨b, 0, rfl, trivial, (Array.getElem?_eq_some_iff.1 h).1, ?_⟩⟩
  rw [Nat.zero_add, cell_of_row W _ _ _ _ _ h]
  have hi : i < p.length := by have := (List.getElem?_eq_some_iff.1 hx).1; simpa using this
  rw [pageCells_get p i hi]
  rw [List.getElem?_map, List.getElem?_eq_getElem hi] at hx
  rw [List.getD_eq_getElem?_getD, List.getElem?_eq_getElem hi]
  exact hx

set_option maxHeartbeats 1000000 in
theorem crcPage_calls (p : List (BitVec 8)) (hl : p.length = 256) (w : World) : Calls Try.prog 32 #[.agg (pageCells p)] w fun e w' => e = .returned (U (sum p)) ∧ Agrees All w w' := by
  go_enter Try.func32, Try.ntmps32
  have hs := sum_one (w.alloc (.cells (pageCells p) 32)) (some ⟨w.heap.size, 0, none⟩) 256 256 p 22 (page_bytes _ _ p _ (World.alloc_heap_new w _) hl)
  rw [World.size_alloc] at hs
  have HS := Lib.hid hs
  clear hs
  go_wp2_with fail
  refine HS.out.mono ?_
  rintro e w' ⟨rfl, hag⟩
  go_wp2_with fail
  go_ret
  exact ⟨rfl, ((Agrees.refl All w).alloc _).trans hag⟩

theorem refSum_one (w : World) (a : Option Addr) (n cap : Nat) (bs : List (BitVec 8)) (t : TypeId) (hv : BytesAt All w (.slice a n cap) bs) :
    Calls Try.prog 31 #[.slice (some ⟨w.heap.size, 0, none⟩) 1 1] (w.alloc (.cells #[.slice a n cap] t)) fun e w' => e = .returned (U (sum bs)) ∧ Agrees All w w' := by
  have hA : Agrees All w (w.alloc (.cells #[.slice a n cap] t)) := (Agrees.refl _ w).alloc _
  refine (refSum_calls _ _ _ [bs] _ (parts_one _ _ w.heap.size n cap a bs (by simp) (by simp) (by rw [cell_of_row _ _ _ _ _ _ (World.alloc_heap_new w _)]; rfl) (SliceAt.bound (hv.agrees hA fun _ h => h)))).mono ?_
  rintro e w' ⟨rfl, rfl⟩
  exact ⟨by simp, hA⟩
set_option maxHeartbeats 1000000 in
theorem refPage_calls (p : List (BitVec 8)) (hl : p.length = 256) (w : World) : Calls Try.prog 33 #[.agg (pageCells p)] w fun e w' => e = .returned (U (sum p)) ∧ Agrees All w w' := by
  go_enter Try.func33, Try.ntmps33
  have hs := refSum_one (w.alloc (.cells (pageCells p) 32)) (some ⟨w.heap.size, 0, none⟩) 256 256 p 22 (page_bytes _ _ p _ (World.alloc_heap_new w _) hl)
  rw [World.size_alloc] at hs
  have HS := Lib.hid hs
  clear hs
  go_wp2_with fail
  refine HS.out.mono ?_
  rintro e w' ⟨rfl, hag⟩
  go_wp2_with fail
  go_ret
  exact ⟨rfl, ((Agrees.refl All w).alloc _).trans hag⟩
end Suture
/-
  POINTERS: ptr.Meta, ptr.Of, ptr.Fits.
  Conditions: none.
-/
namespace Suture
open Go Go.RowKit Go.Proofs

/-- a pointer's value -/
structure Ptr where
  kd : Int
  a0 : Int
  a1 : Int
  bi : Int
  su : BitVec 64
def Ptr.ok (x : Ptr) : Prop := (0 ≤ x.kd ∧ x.kd ≤ 255) ∧ (0 ≤ x.a0 ∧ x.a0 ≤ 65535) ∧ (0 ≤ x.a1 ∧ x.a1 ≤ 65535) ∧ (0 ≤ x.bi ∧ x.bi ≤ 4294967295)
def Ptr.cells (x : Ptr) : Array Value := #[.int .u8 x.kd, .int .u16 x.a0, .int .u16 x.a1, .int .u32 x.bi, U x.su]
def Ptr.isMeta (x : Ptr) : Bool := x.kd == 1 || x.kd == 2
/-- its addresses -/
def Ptr.addrs (x : Ptr) : List Int := if x.isMeta then [x.a0, x.a1] else if x.kd = 3 then [x.a0] else []

set_option maxHeartbeats 400000 in
theorem meta_calls (x : Ptr) (w : World) : Calls Try.prog 54 #[.agg x.cells] w fun e w' => e = .returned (.bool x.isMeta) ∧ Agrees All w w' := by
  obtain ⟨kd, a0, a1, bi, su⟩ := x
  simp only [Ptr.cells, Ptr.isMeta]
  go_enter Try.func54, Try.ntmps54
  go_wp2
  all_goals
    go_ret
    exact ⟨by simp_all, (Agrees.refl _ w).alloc _⟩

theorem isAgg_ptr : IsAgg Try.prog 48 5 := ⟨⟨_, Try.underlying48, rfl⟩, by kernel_rfl⟩
theorem Ptr.load (x : Ptr) {W : World} {b : Nat} {t : TypeId} (h : W.heap[b]? = some (.cells x.cells t (0, 0))) : ∀ j, j < 5 → W.cell? ⟨b, 0 + j, none⟩ = x.cells[j]? := by
  intro j _; rw [Nat.zero_add]; exact cell_of_row W _ _ _ _ _ h
theorem ptr_at {kd a0 a1 bi : Int} {su : BitVec 64} {W : World} {b : Nat} {t : TypeId} (h : W.heap[b]? = some (.cells (Ptr.mk kd a0 a1 bi su).cells t (0, 0))) :
    W.cell? ⟨b, 0, none⟩ = some (.int .u8 kd) ∧ W.cell? ⟨b, 1, none⟩ = some (.int .u16 a0) ∧ W.cell? ⟨b, 2, none⟩ = some (.int .u16 a1) ∧ W.cell? ⟨b, 3, none⟩ = some (.int .u32 bi) ∧ W.cell? ⟨b, 4, none⟩ = some (U su) := by
  have hc := fun j => cell_of_row W b j _ _ _ h
  exact ⟨hc 0, hc 1, hc 2, hc 3, hc 4⟩

attribute [local go_sem] Oper.semAt_some
set_option maxHeartbeats 1000000 in
theorem addresses1_iter (R : Nat → Prop) (n₀ : Nat) (w0 : World) (Bx : Nat) (x : Ptr) (hx : x.ok) (hbox : w0.heap[Bx]? = some (.cells x.cells 48 (0, 0))) (hRB : R Bx) (hR : ∀ b, R b → b < w0.heap.size) :
    IterAt Try.prog 66 #[.pointer (some ⟨Bx, 0, none⟩)] (fun k => #[.int .i64 (x.addrs.getD k 0)]) x.addrs.length n₀ R w0 := by
  intro l J Jx C W hag hC hJ hJx hY h0
  refine (callsIn_wide (n := 0)).1 ?_
  have hB := (Array.getElem?_eq_some_iff.1 hbox).1
  have hbW : W.heap[Bx]? = some (.cells x.cells 48 (0, 0)) := (hag.block Bx hB hRB).trans hbox
  have hFn : ∀ f, Fence.wide.fn f := fun _ => trivial
  have hro : Fence.wide.round = none := rfl
  have hdp : Fence.wide.depth = none := rfl
  have hMF := fun W => (callsIn_wide (n := 0)).2 (meta_calls x W)
  obtain ⟨kd, a0, a1, bi, su⟩ := x
  obtain ⟨hk, h0r, h1r, _⟩ := hx
  simp only at hk h0r h1r
  have hBW := (Array.getElem?_eq_some_iff.1 hbW).1
  obtain ⟨c0, c1, c2, c3, c4⟩ := ptr_at hbW
  have hm : (Ptr.mk kd a0 a1 bi su).isMeta = (kd == 1 || kd == 2) := rfl
  have hL : (Ptr.mk kd a0 a1 bi su).addrs = if (kd == 1 || kd == 2) = true then [a0, a1] else if kd = 3 then [a0] else [] := rfl
  have w16 : ∀ a : Int, 0 ≤ a ∧ a ≤ 65535 → IntKind.i64.wrap a = a := fun a h => by rw [IntKind.wrap_i64]; omega
  have e0 := w16 a0 h0r
  have e1 := w16 a1 h1r
  rw [hL] at hY ⊢
  rw [hm] at hMF
  have hbW' := Lib.hid hbW
  clear hbW hbox w16 hL hm
  simp only [Ptr.cells] at hMF
  by_cases hmt : (kd == 1 || kd == 2) = true
  · rw [if_pos hmt] at hY ⊢
    rw [hmt] at hMF
    generalize Fence.wide = F at *
    refine callsIn_of_wp Try.func66 rfl (hFn _) ?_ hro
    simp only [Try.ntmps66, List.size_toArray, List.length_cons, List.length_nil, Nat.reduceAdd, Nat.reduceSub, Array.replicate_succ, Array.replicate_zero, List.push_toArray, List.append_toArray, List.nil_append, List.cons_append]
    have hF2 := Lib.hid hMF
    clear hMF
    gi_wp2_with fail
    refine (hF2.out _).mono ?_
    rintro e W1 ⟨rfl, hag1⟩
    have hag01 : Agrees R w0 W1 := hag.trans hag1.weak
    have hbW1 := (hag1.block Bx hBW trivial).trans hbW'.out
    have hj0 : J 0 C W1 := hJ 0 C W W1 h0 hag1.weak
    have hC1 : ∀ b, C b → ¬ R b ∧ b < W1.heap.size := fun b hb => ⟨(hC b hb).1, Nat.lt_of_lt_of_le (hC b hb).2 hag1.size⟩
    obtain ⟨c0, c1, c2, c3, c4⟩ := ptr_at hbW1
    have HB1 := Lib.hid hbW1
    clear hbW1 hbW'
    obtain ⟨fn, tmps, assign, body, hy, hR'⟩ := hY 0 C W1 (by simp) hj0 (fun b hb => (hC1 b hb).2)
    simp only [List.getD_cons_zero] at hy
    gi_wp2
    refine hR'.mono ?_
    rintro e W3 (⟨rfl, hag3, C3, hj3, hC3⟩ | ⟨rfl, hag3, C3, hj3, hC3⟩)
    · have hbW3 := (hag3.block Bx (Array.getElem?_eq_some_iff.1 HB1.out).1 (fun h => (hC1 Bx h).1 hRB)).trans HB1.out
      have hC3' : ∀ b, C3 b → ¬ R b ∧ b < W3.heap.size := fun b hb => ⟨fun hr => (hC3 b hb).2.elim (fun h => (hC1 b h).1 hr) (fun h => by have := hR b hr; have := hag01.size; omega), (hC3 b hb).1⟩
      obtain ⟨d0, d1, d2, d3, d4⟩ := ptr_at hbW3
      have HB3 := Lib.hid hbW3
      clear c0 c1 c2 c3 c4 hbW3 hy
      gi_wp2_with fail
      refine (hF2.out _).mono ?_
      rintro e W4 ⟨rfl, hag4⟩
      have hbW4 := (hag4.block Bx (Array.getElem?_eq_some_iff.1 HB3.out).1 trivial).trans HB3.out
      have hj4 : J 1 C3 W4 := hJ 1 C3 W3 W4 hj3 hag4.weak
      have hC4 : ∀ b, C3 b → b < W4.heap.size := fun b hb => Nat.lt_of_lt_of_le (hC3' b hb).2 hag4.size
      obtain ⟨c0, c1, c2, c3, c4⟩ := ptr_at hbW4
      clear d0 d1 d2 d3 d4 hbW4
      obtain ⟨fn, tmps, assign, body, hy, hR4⟩ := hY 1 C3 W4 (by simp) hj4 hC4
      simp only [List.getD_cons_succ, List.getD_cons_zero] at hy
      gi_wp2
      refine hR4.mono ?_
      rintro e W5 (⟨rfl, hag5, C5, hj5, hC5⟩ | ⟨rfl, hag5, C5, hj5, hC5⟩)
      · gi_wp2
        go_end0
        exact ⟨⟨_, rfl⟩, C5, .inl hj5⟩
      · gi_wp2
        go_end0
        exact ⟨⟨_, rfl⟩, C5, .inr ⟨1, by simp, hj5⟩⟩
    · gi_wp2
      refine bodyPost_ret (results_none rfl _ _ _) rfl ?_
      exact ⟨⟨_, rfl⟩, C3, .inr ⟨0, by simp, hj3⟩⟩
  · rw [if_neg hmt] at hY ⊢
    have hmf : (kd == 1 || kd == 2) = false := by simpa using hmt
    rw [hmf] at hMF
    by_cases h3 : kd = 3
    · rw [if_pos h3] at hY ⊢
      subst h3
      clear hmt hmf
      generalize Fence.wide = F at *
      refine callsIn_of_wp Try.func66 rfl (hFn _) ?_ hro
      simp only [Try.ntmps66, List.size_toArray, List.length_cons, List.length_nil, Nat.reduceAdd, Nat.reduceSub, Array.replicate_succ, Array.replicate_zero, List.push_toArray, List.append_toArray, List.nil_append, List.cons_append]
      have hF2 := Lib.hid hMF
      clear hMF
      gi_wp2_with fail
      refine (hF2.out _).mono ?_
      rintro e W1 ⟨rfl, hag1⟩
      have hag01 : Agrees R w0 W1 := hag.trans hag1.weak
      have hbW1 := (hag1.block Bx hBW trivial).trans hbW'.out
      have hj0 : J 0 C W1 := hJ 0 C W W1 h0 hag1.weak
      have hC1 : ∀ b, C b → ¬ R b ∧ b < W1.heap.size := fun b hb => ⟨(hC b hb).1, Nat.lt_of_lt_of_le (hC b hb).2 hag1.size⟩
      obtain ⟨c0, c1, c2, c3, c4⟩ := ptr_at hbW1
      have HB1 := Lib.hid hbW1
      clear hbW1 hbW'
      obtain ⟨fn, tmps, assign, body, hy, hR'⟩ := hY 0 C W1 (by simp) hj0 (fun b hb => (hC1 b hb).2)
      simp only [List.getD_cons_zero] at hy
      gi_wp2
      refine hR'.mono ?_
      rintro e W3 (⟨rfl, hag3, C3, hj3, hC3⟩ | ⟨rfl, hag3, C3, hj3, hC3⟩)
      · have hbW3 := (hag3.block Bx (Array.getElem?_eq_some_iff.1 HB1.out).1 (fun h => (hC1 Bx h).1 hRB)).trans HB1.out
        have hC3' : ∀ b, C3 b → ¬ R b ∧ b < W3.heap.size := fun b hb => ⟨fun hr => (hC3 b hb).2.elim (fun h => (hC1 b h).1 hr) (fun h => by have := hR b hr; have := hag01.size; omega), (hC3 b hb).1⟩
        obtain ⟨d0, d1, d2, d3, d4⟩ := ptr_at hbW3
        have HB3 := Lib.hid hbW3
        clear c0 c1 c2 c3 c4 hbW3 hy
        gi_wp2_with fail
        refine (hF2.out _).mono ?_
        rintro e W4 ⟨rfl, hag4⟩
        have hj4 : J 1 C3 W4 := hJ 1 C3 W3 W4 hj3 hag4.weak
        gi_wp2_with fail
        go_end0
        exact ⟨⟨_, rfl⟩, C3, .inl hj4⟩
      · gi_wp2
        refine bodyPost_ret (results_none rfl _ _ _) rfl ?_
        exact ⟨⟨_, rfl⟩, C3, .inr ⟨0, by simp, hj3⟩⟩
    · rw [if_neg h3] at hY ⊢
      generalize Fence.wide = F at *
      refine callsIn_of_wp Try.func66 rfl (hFn _) ?_ hro
      simp only [Try.ntmps66, List.size_toArray, List.length_cons, List.length_nil, Nat.reduceAdd, Nat.reduceSub, Array.replicate_succ, Array.replicate_zero, List.push_toArray, List.append_toArray, List.nil_append, List.cons_append]
      have hF2 := Lib.hid hMF
      clear hMF
      gi_wp2_with fail
      refine (hF2.out _).mono ?_
      rintro e W1 ⟨rfl, hag1⟩
      have hag01 : Agrees R w0 W1 := hag.trans hag1.weak
      have hbW1 := (hag1.block Bx hBW trivial).trans hbW'.out
      have hj0 : J 0 C W1 := hJ 0 C W W1 h0 hag1.weak
      have hC1 : ∀ b, C b → ¬ R b ∧ b < W1.heap.size := fun b hb => ⟨(hC b hb).1, Nat.lt_of_lt_of_le (hC b hb).2 hag1.size⟩
      obtain ⟨c0, c1, c2, c3, c4⟩ := ptr_at hbW1
      have HB1 := Lib.hid hbW1
      clear hbW1 hbW'
      gi_wp2_with fail
      refine bodyPost_ret (results_none rfl _ _ _) rfl ?_
      exact ⟨⟨_, rfl⟩, C, .inl hj0⟩
end Suture
/-
  POINTERS: ptr.addresses, ptr.Right.
  Conditions: none.
-/
namespace Suture
open Go Go.RowKit Go.Proofs

theorem run_loadVar_one {P : Program} {ty : TypeId} (hA : IsOne P ty) {W : World} {b off : Nat} {v : Value} (hc : W.cell? ⟨b, off, none⟩ = some v) : (loadVar ty ⟨b, off, none⟩).run P W = .ok v W := by
  obtain ⟨⟨d, hu, hd⟩, hi⟩ := hA
  have hagg : (isAgg ty).run P W = .ok false W := by
    unfold isAgg
    rw [Sem.run_bind, run_underlying hu W]
    cases d <;> simp_all
  simp [Sem.run_bind, loadVar, hagg, hc]
theorem results_cell1 {P : Program} {fn : Func} {p : Tmp} {ty : TypeId} (h : fn.results = #[.cell p ty]) (tmps : Array Value) {W : World} {b : Nat} {v : Value} (hp : tmps.getD p undef = .pointer (some ⟨b, 0, none⟩)) (hA : IsOne P ty)
    (hc : W.cell? ⟨b, 0, none⟩ = some v) : (results fn tmps).run P W = .ok v W := by
  have hp' : tmps[p]?.getD undef = .pointer (some ⟨b, 0, none⟩) := by simpa using hp
  simp [results, h, hp', asAddr, run_loadVar_one hA hc]
theorem wp_seq_cut {P : Program} {x y : Code} {Q : Exit → Act → World → Prop} {a : Act} {w : World} (M : Act → World → Prop) (h1 : x.wp P (Exit.then M Q) a w) (h2 : ∀ a w, M a w → y.wp P Q a w) : (Code.seq x y).wp P Q a w :=
  wp_seq (wp_mono h1 (fun e a w h => by cases e <;> first | exact h2 _ _ h | exact h))

theorem addresses_calls (x : Ptr) (w : World) :
    Calls Try.prog 55 #[.agg x.cells] w fun e w' => e = .returned (.func (.func 66) #[] #[.pointer (some ⟨w.heap.size, 0, none⟩)]) ∧ w.alloc (.cells x.cells 48) = w' := by
  go_enter Try.func55, Try.ntmps55
  go_wp2
  go_ret
  exact ⟨rfl, rfl⟩

/-- what may be, but for its places -/
def Ptr.first (x : Ptr) : Bool := decide (1 ≤ x.bi) && decide (x.bi ≤ 1073741824) && (x.isMeta && x.a0 != x.a1 || x.kd == 3 && x.a1 == 0)
def Ptr.fits1 (size a : Int) : Bool := decide (4 ≤ a) && decide (a < size)
def Ptr.right (x : Ptr) (size : Int) : Bool := x.first && x.addrs.all (Ptr.fits1 size)

/-- the world of ptr.Right, what is right so far -/
structure RightW (w : World) (n0 : Nat) (x : Ptr) (size : Int) (b : Bool) (W : World) : Prop where
  ag : Agrees (fun k => k < n0) w W
  lo : w.heap.size ≤ n0
  ptr : W.heap[n0]? = some (.cells x.cells 48 (0, 0))
  sz : W.heap[n0 + 1]? = some (.cells #[.int .i64 size] 3 (0, 0))
  res : W.heap[n0 + 1 + 1]? = some (.cells #[.bool b] 4 (0, 0))
theorem RightW.set {w : World} {n0 : Nat} {x : Ptr} {size : Int} {b b' v : Bool} {W : World} (h : RightW w n0 x size b' W) (e : b = v) : RightW w n0 x size b (W.setCell ⟨n0 + 1 + 1, 0, none⟩ (.bool v)) := by
  subst e
  refine ⟨h.ag.setCell (.inl (by show ¬ n0 + 1 + 1 < n0; omega)) _, h.lo, ?_, ?_, ?_⟩
  · rw [heap_setCell_other _ _ _ _ (by show n0 ≠ n0 + 1 + 1; omega)]; exact h.ptr
  · rw [heap_setCell_other _ _ _ _ (by show n0 + 1 ≠ n0 + 1 + 1; omega)]; exact h.sz
  · exact heap_setCell_same _ _ 0 _ _ _ h.res
theorem RightW.agrees {w : World} {n0 : Nat} {x : Ptr} {size : Int} {b : Bool} {W W' : World} (h : RightW w n0 x size b W) (g : Agrees (fun k => k < n0 + 3) W W') : RightW w n0 x size b W' := by
  have h1 := (Array.getElem?_eq_some_iff.1 h.ptr).1
  have h2 := (Array.getElem?_eq_some_iff.1 h.sz).1
  have h3 := (Array.getElem?_eq_some_iff.1 h.res).1
  exact ⟨h.ag.trans' g (fun k _ hk => by omega), h.lo, (g.block _ h1 (by omega)).trans h.ptr, (g.block _ h2 (by omega)).trans h.sz, (g.block _ h3 (by omega)).trans h.res⟩
theorem RightW.all {w : World} {n0 : Nat} {x : Ptr} {size : Int} {b : Bool} {W : World} (h : RightW w n0 x size b W) : Agrees All w W :=
  h.ag.mono fun _ hb _ => Nat.lt_of_lt_of_le hb h.lo

theorem oneBool : IsOne Try.prog 4 := ⟨⟨_, Try.underlying4, rfl⟩, by kernel_rfl⟩

attribute [local go_sem] Oper.semAt_some
set_option maxHeartbeats 2000000 in
set_option maxRecDepth 100000 in
theorem right_calls (x : Ptr) (hx : x.ok) (size : Int) (w : World) : Calls Try.prog 46 #[.agg x.cells, .int .i64 size] w fun e w' => e = .returned (.bool (x.right size)) ∧ Agrees All w w' := by
  refine (callsIn_wide (n := 0)).1 (callsIn_of_wp_marks Try.func46 rfl trivial (wpIn_wide.2 ?_) rfl)
  simp only [Try.ntmps46, List.size_toArray, List.length_cons, List.length_nil, Nat.reduceAdd, Nat.reduceSub, Array.replicate_succ, Array.replicate_zero, List.push_toArray, List.append_toArray, List.nil_append, List.cons_append]
  obtain ⟨W0, hW0⟩ : ∃ W0, ((w.alloc (.cells x.cells 48)).alloc (.cells #[.int .i64 size] 3)).alloc (.cells #[.bool false] 4) = W0 := ⟨_, rfl⟩
  have hs0 : W0.heap.size = w.heap.size + 3 := by rw [← hW0]; simp
  have hA0 : Agrees All w W0 := by rw [← hW0]; exact (((Agrees.refl _ w).alloc _).alloc _).alloc _
  have hb0 : W0.heap[w.heap.size]? = some (.cells x.cells 48 (0, 0)) := by
    rw [← hW0, heap_alloc_old _ _ (by simp; omega), heap_alloc_old _ _ (by simp)]; exact World.alloc_heap_new w _
  have hb1 : W0.heap[w.heap.size + 1]? = some (.cells #[.int .i64 size] 3 (0, 0)) := by
    rw [← hW0, heap_alloc_old _ _ (by simp)]
    have := World.alloc_heap_new (w.alloc (.cells x.cells 48)) (.cells #[.int .i64 size] 3); rwa [World.size_alloc] at this
  have hb2 : W0.heap[w.heap.size + 2]? = some (.cells #[.bool false] 4 (0, 0)) := by
    rw [← hW0]
    have := World.alloc_heap_new ((w.alloc (.cells x.cells 48)).alloc (.cells #[.int .i64 size] 3)) (.cells #[.bool false] 4); rwa [World.size_alloc, World.size_alloc] at this
  have HB0 := Lib.hid hb0
  have HB1 := Lib.hid hb1
  have HB2 := Lib.hid hb2
  clear hb0 hb1 hb2
  go_wp2_with fail
  refine wp_scope_straight ?_
  generalize hn0 : w.heap.size = n0 at *
  obtain ⟨kd, a0, a1, bi, su⟩ := x
  refine wp_seq_cut (fun a W => (∃ u5 u6 u7 u8 u9 u10 u11 u12 u13 u14 u15 u16 u17 u18 u19 u20 u21 u22 u23 u24 u25 u26 u27 u28 u29 u30 u31 u32 u33 u34 u35 u36 u37 u38 u39 u40 u41 u42 u43 u44 u45 u46 u47 u48 u49 u50 u51 u52 u53 : Value, a = { tmps := #[.agg (Ptr.mk kd a0 a1 bi su).cells, .int .i64 size, .pointer (some ⟨n0, 0, none⟩), .pointer (some ⟨n0 + 1, 0, none⟩), .pointer (some ⟨n0 + 1 + 1, 0, none⟩), u5, u6, u7, u8, u9, u10, u11, u12, u13, u14, u15, u16, u17, u18, u19, u20, u21, u22, u23, u24, u25, u26, u27, u28, u29, u30, u31, u32, u33, u34, u35, u36, u37, u38, u39, u40, u41, u42, u43, u44, u45, u46, u47, u48, u49, u50, u51, u52, u53], defers := [] }) ∧ RightW w n0 ⟨kd, a0, a1, bi, su⟩ size (Ptr.mk kd a0 a1 bi su).first W) ?part1 ?part2
  case part1 =>
    have hm := fun W => meta_calls ⟨kd, a0, a1, bi, su⟩ W
    have hR0 : RightW w n0 ⟨kd, a0, a1, bi, su⟩ size false W0 := ⟨hA0.weak, Nat.le_of_eq hn0, HB0.out, HB1.out, HB2.out⟩
    clear hA0 HB0 HB1 HB2 hW0 hx
    simp only [Ptr.first]
    generalize hmt : (Ptr.mk kd a0 a1 bi su).isMeta = mt at *
    obtain ⟨c0, c1, c2, c3, c4⟩ := ptr_at hR0.ptr
    have hc5 : W0.cell? ⟨n0 + 1 + 1, 0, none⟩ = some (.bool false) := cell_of_row W0 _ 0 _ _ _ hR0.res
    have hf5 : W0.frozen? ⟨n0 + 1 + 1, 0, none⟩ = false := frozen_of_row W0 _ 0 _ _ hR0.res
    have HM := Lib.hid hm
    have HR0 := Lib.hid hR0
    clear hm hR0
    go_wp2_with fail
    · refine (HM.out _).mono ?_
      rintro e W1 ⟨rfl, hag1⟩
      have hR1 := HR0.out.agrees hag1.weak
      obtain ⟨d0, d1, d2, d3, d4⟩ := ptr_at hR1.ptr
      have hd5 : W1.cell? ⟨n0 + 1 + 1, 0, none⟩ = some (.bool false) := cell_of_row W1 _ 0 _ _ _ hR1.res
      have hdf : W1.frozen? ⟨n0 + 1 + 1, 0, none⟩ = false := frozen_of_row W1 _ 0 _ _ hR1.res
      have HR1 := Lib.hid hR1
      clear hR1 c0 c1 c2 c3 c4 hc5 hf5
      cases mt
      all_goals
        go_wp2_with fail
        all_goals
          (repeat apply Exists.intro)
          refine ⟨?fr2, ?rel2⟩
          case fr2 =>
            simp
            repeat (first | exact rfl | refine ⟨rfl, ?_⟩)
            try simp_all
          case rel2 =>
            refine HR1.out.set ?_
            clear HR1 HR0 HM d0 d1 d2 d3 d4 hd5 hdf
            simp_all
    all_goals
      refine HR0.out.set ?_
      clear HR0 HM c0 c1 c2 c3 c4 hc5 hf5
      simp_all
      try omega
  case part2 =>
    rintro a W ⟨⟨u5, u6, u7, u8, u9, u10, u11, u12, u13, u14, u15, u16, u17, u18, u19, u20, u21, u22, u23, u24, u25, u26, u27, u28, u29, u30, u31, u32, u33, u34, u35, u36, u37, u38, u39, u40, u41, u42, u43, u44, u45, u46, u47, u48, u49, u50, u51, u52, u53, rfl⟩, hR⟩
    refine wp_seq (wp_label ?_)
    have HR := Lib.hid hR
    have hb := (Array.getElem?_eq_some_iff.1 hR.res).1
    obtain ⟨c0, c1, c2, c3, c4⟩ := ptr_at hR.ptr
    clear hR hA0 HB0 HB1 HB2 hW0 hs0
    simp only [Exit.then]
    go_wp2_with (go_at_call 55; refine (addresses_calls ⟨kd, a0, a1, bi, su⟩ _).mono ?_; rintro e w' ⟨rfl, rfl⟩)
    obtain ⟨W2, hW2⟩ : ∃ W2, W.alloc (.cells (Ptr.mk kd a0 a1 bi su).cells 48) = W2 := ⟨_, rfl⟩
    have hR2 : RightW w n0 ⟨kd, a0, a1, bi, su⟩ size (Ptr.mk kd a0 a1 bi su).first W2 := by rw [← hW2]; exact HR.out.agrees ((Agrees.refl _ W).alloc _)
    have hbox : W2.heap[W.heap.size]? = some (.cells (Ptr.mk kd a0 a1 bi su).cells 48 (0, 0)) := by rw [← hW2]; exact World.alloc_heap_new W _
    have hbl := (Array.getElem?_eq_some_iff.1 hbox).1
    rw [hW2]
    have hgo : ∀ (b : Bool) (W3 W4 : World), RightW w n0 ⟨kd, a0, a1, bi, su⟩ size b W3 → Agrees (fun b => (fun b => b = n0 + 1 + 1) b ∨ b < n0 + 2) W3 W4 → RightW w n0 ⟨kd, a0, a1, bi, su⟩ size b W4 := fun b W3 W4 h g => h.agrees (g.mono fun k _ hk => by
      by_cases e : k = n0 + 1 + 1
      · exact .inl e
      · exact .inr (by omega))
    refine wp_rangeFunc_iter rfl (Go.Proofs.enters_of Try.func66 (by kernel_rfl) rfl) (addresses1_iter (fun b => b = W.heap.size) (n0 + 2) W2 W.heap.size ⟨kd, a0, a1, bi, su⟩ hx hbox rfl (fun b hb => by rw [hb]; exact hbl))
      (Agrees.refl _ _) (fun b hb => by rw [hb]; exact hbl) (by have := (Array.getElem?_eq_some_iff.1 hR2.res).1; omega) (fun _ => rfl)
      (fun b => b = n0 + 1 + 1) (fun b hb => by have := (Array.getElem?_eq_some_iff.1 hR2.res).1; exact ⟨by omega, by omega⟩)
      (fun k C W' => C = (fun b => b = n0 + 1 + 1) ∧ RightW w n0 ⟨kd, a0, a1, bi, su⟩ size ((Ptr.mk kd a0 a1 bi su).first && ((Ptr.mk kd a0 a1 bi su).addrs.take k).all (Ptr.fits1 size)) W')
      (fun c _ C W' => C = (fun b => b = n0 + 1 + 1) ∧ c = .exit 0 ∧ RightW w n0 ⟨kd, a0, a1, bi, su⟩ size ((Ptr.mk kd a0 a1 bi su).right size) W')
      ?stabI ?stabX ⟨rfl, by simpa using hR2⟩
      (fun k => { tmps := #[.agg (Ptr.mk kd a0 a1 bi su).cells, .int .i64 size, .pointer (some ⟨n0, 0, none⟩), .pointer (some ⟨n0 + 1, 0, none⟩), .pointer (some ⟨n0 + 1 + 1, 0, none⟩), .int .i64 ((Ptr.mk kd a0 a1 bi su).addrs.getD k 0), u6, u7, u8, u9, u10, u11, u12, u13, u14, u15, u16, u17, u18, u19, u20, u21, u22, u23, u24, u25, u26, u27, u28, u29, u30, u31, u32, u33, u34, u35, u36, u37, .agg #[.int .u8 kd, .int .u16 a0, .int .u16 a1, .int .u32 bi, U su], .func (.func 66) #[] #[.pointer (some ⟨W.heap.size, 0, none⟩)], .int .i64 ((Ptr.mk kd a0 a1 bi su).addrs.getD k 0), u41, u42, u43, u44, u45, u46, u47, u48, u49, u50, u51, u52, u53], defers := [] })
      ?assign ?body ?done ?stop
    case stabI =>
      rintro k C W3 W4 ⟨rfl, h⟩ hag
      exact ⟨rfl, hgo _ _ _ h hag⟩
    case stabX =>
      rintro c k C W3 W4 ⟨rfl, hc, h⟩ hag
      exact ⟨rfl, hc, hgo _ _ _ h hag⟩
    case assign =>
      intro l k W K hK
      generalize (Ptr.mk kd a0 a1 bi su).addrs.getD k 0 = av at *
      gi_wp2
      exact hK
    case body =>
      rintro l k C W' hk ⟨rfl, hI⟩ hCW hsz
      have hsuc : ((Ptr.mk kd a0 a1 bi su).first && ((Ptr.mk kd a0 a1 bi su).addrs.take (k + 1)).all (Ptr.fits1 size)) = (((Ptr.mk kd a0 a1 bi su).first && ((Ptr.mk kd a0 a1 bi su).addrs.take k).all (Ptr.fits1 size)) && Ptr.fits1 size ((Ptr.mk kd a0 a1 bi su).addrs.getD k 0)) := by
        rw [List.take_succ_eq_append_getElem hk, List.all_append, List.getD_eq_getElem?_getD, List.getElem?_eq_getElem hk]
        simp [Bool.and_assoc]
      have hfin : Ptr.fits1 size ((Ptr.mk kd a0 a1 bi su).addrs.getD k 0) = false ∨ ((Ptr.mk kd a0 a1 bi su).first && ((Ptr.mk kd a0 a1 bi su).addrs.take k).all (Ptr.fits1 size)) = false → (Ptr.mk kd a0 a1 bi su).right size = false := by
        intro hor
        unfold Ptr.right
        cases hr : (Ptr.mk kd a0 a1 bi su).first && (Ptr.mk kd a0 a1 bi su).addrs.all (Ptr.fits1 size) with
        | false => rfl
        | true =>
          exfalso
          rw [Bool.and_eq_true, List.all_eq_true] at hr
          rcases hor with h | h
          · have := hr.2 ((Ptr.mk kd a0 a1 bi su).addrs.getD k 0) (by rw [List.getD_eq_getElem?_getD, List.getElem?_eq_getElem hk]; exact List.getElem_mem hk)
            rw [h] at this; cases this
          · rw [hr.1, Bool.true_and, List.all_eq_false] at h
            obtain ⟨y, hy, hf⟩ := h
            exact hf (hr.2 y (List.mem_of_mem_take hy))
      generalize hbk : ((Ptr.mk kd a0 a1 bi su).first && ((Ptr.mk kd a0 a1 bi su).addrs.take k).all (Ptr.fits1 size)) = bk at *
      generalize (Ptr.mk kd a0 a1 bi su).addrs.getD k 0 = av at *
      have d5 : W'.cell? ⟨n0 + 1 + 1, 0, none⟩ = some (.bool bk) := cell_of_row W' _ 0 _ _ _ hI.res
      have d5f : W'.frozen? ⟨n0 + 1 + 1, 0, none⟩ = false := frozen_of_row W' _ 0 _ _ hI.res
      have d3 : W'.cell? ⟨n0 + 1, 0, none⟩ = some (.int .i64 size) := cell_of_row W' _ 0 _ _ _ hI.sz
      have HI := Lib.hid hI
      have HSUC := Lib.hid hsuc
      have HFIN := Lib.hid hfin
      clear hI hsuc hfin hbk c0 c1 c2 c3 c4 hR2 hgo
      gi_wp2
      · refine ⟨(Agrees.refl _ W').setCell (.inl (fun h => h rfl)) _, _, ⟨rfl, rfl, HI.out.set ?_⟩, fun b hb => ⟨by have := hCW b hb; simpa [World.setCell] using this, .inl hb⟩⟩
        have hf := HFIN.out
        clear HI HFIN HSUC d5 d5f d3 hCW
        simp_all [Ptr.fits1]
      · refine ⟨(Agrees.refl _ W').setCell (.inl (fun h => h rfl)) _, _, ⟨rfl, HI.out.set ?_⟩, fun b hb => ⟨by have := hCW b hb; simpa [World.setCell] using this, .inl hb⟩⟩
        rw [HSUC.out]
        clear HI HFIN HSUC d5 d5f d3 hCW
        simp_all [Ptr.fits1]
      · refine ⟨(Agrees.refl _ W').setCell (.inl (fun h => h rfl)) _, _, ⟨rfl, rfl, HI.out.set ?_⟩, fun b hb => ⟨by have := hCW b hb; simpa [World.setCell] using this, .inl hb⟩⟩
        have hf := HFIN.out
        clear HI HFIN HSUC d5 d5f d3 hCW
        simp_all [Ptr.fits1]
        exact hf (by omega)
      · refine ⟨(Agrees.refl _ W').setCell (.inl (fun h => h rfl)) _, _, ⟨rfl, rfl, HI.out.set ?_⟩, fun b hb => ⟨by have := hCW b hb; simpa [World.setCell] using this, .inl hb⟩⟩
        have hf := HFIN.out
        clear HI HFIN HSUC d5 d5f d3 hCW
        have hb0 : bk = false := by simpa using ‹¬bk = true›
        exact (hf (.inr hb0)).trans (by first | rfl | exact hb0.symm)
    case done =>
      rintro D C W' hD ⟨rfl, h⟩ hK hCD
      rw [List.take_length] at h
      have d5 : W'.cell? ⟨n0 + 1 + 1, 0, none⟩ = some (.bool ((Ptr.mk kd a0 a1 bi su).right size)) := cell_of_row W' _ 0 _ _ _ h.res
      have d5f : W'.frozen? ⟨n0 + 1 + 1, 0, none⟩ = false := frozen_of_row W' _ 0 _ _ h.res
      have hset : RightW w n0 ⟨kd, a0, a1, bi, su⟩ size ((Ptr.mk kd a0 a1 bi su).right size) (W'.setCell ⟨n0 + 1 + 1, 0, none⟩ (.bool ((Ptr.mk kd a0 a1 bi su).right size))) := h.set rfl
      have HK : RowKit.Hid ((W'.setCell ⟨n0 + 1 + 1, 0, none⟩ (.bool ((Ptr.mk kd a0 a1 bi su).right size))).heap[D]? = some (.deferred (some []))) := by
        rw [heap_setCell_other _ _ _ _ (fun e => hCD e)]; exact hK
      have HS := Lib.hid hset
      have HCD := Lib.hid hCD
      have HDn := Lib.hid (show w.heap.size ≤ D by omega)
      generalize hr : (Ptr.mk kd a0 a1 bi su).right size = r at *
      have HRR := Lib.hid hr
      clear h hset hK c0 c1 c2 c3 c4 hR2 hgo hCD hr
      go_wp2
      refine ⟨by simp, .inl ⟨_, _, rfl, run_takeDeferred HK.out, ?_⟩⟩
      refine ⟨_, results_cell1 rfl _ (b := n0 + 1 + 1) rfl oneBool (cell_of_row _ _ 0 _ _ _ ((World.putObj_heap_other (fun e => HCD.out e.symm)).trans HS.out.res)), ?_⟩
      exact ⟨by rw [HRR.out]; rfl, HS.out.all.putObj (.inr HDn.out) _⟩
    case stop =>
      rintro D k c C W' hD hk ⟨rfl, rfl, h⟩ hK hCD
      have d5 : W'.cell? ⟨n0 + 1 + 1, 0, none⟩ = some (.bool ((Ptr.mk kd a0 a1 bi su).right size)) := cell_of_row W' _ 0 _ _ _ h.res
      have d5f : W'.frozen? ⟨n0 + 1 + 1, 0, none⟩ = false := frozen_of_row W' _ 0 _ _ h.res
      have hset : RightW w n0 ⟨kd, a0, a1, bi, su⟩ size ((Ptr.mk kd a0 a1 bi su).right size) (W'.setCell ⟨n0 + 1 + 1, 0, none⟩ (.bool ((Ptr.mk kd a0 a1 bi su).right size))) := h.set rfl
      have HK : RowKit.Hid ((W'.setCell ⟨n0 + 1 + 1, 0, none⟩ (.bool ((Ptr.mk kd a0 a1 bi su).right size))).heap[D]? = some (.deferred (some []))) := by
        rw [heap_setCell_other _ _ _ _ (fun e => hCD e)]; exact hK
      have HS := Lib.hid hset
      have HCD := Lib.hid hCD
      have HDn := Lib.hid (show w.heap.size ≤ D by omega)
      generalize hr : (Ptr.mk kd a0 a1 bi su).right size = r at *
      have HRR := Lib.hid hr
      clear h hset hK c0 c1 c2 c3 c4 hR2 hgo hCD hr
      go_wp2
      refine ⟨by simp, .inl ⟨_, _, rfl, run_takeDeferred HK.out, ?_⟩⟩
      refine ⟨_, results_cell1 rfl _ (b := n0 + 1 + 1) rfl oneBool (cell_of_row _ _ 0 _ _ _ ((World.putObj_heap_other (fun e => HCD.out e.symm)).trans HS.out.res)), ?_⟩
      exact ⟨by rw [HRR.out]; rfl, HS.out.all.putObj (.inr HDn.out) _⟩
end Suture
/-
  A WALK CUT IN TWO behind the second, third, fourth part of a row of parts (no program).
  Conditions: none beyond each theorem's own.
-/
namespace Suture
open Go Go.RowKit

section
variable {P : Program} {Q : Exit → Act → World → Prop} {a : Act} {w : World} {x1 x2 x3 x4 x5 z : Code} (M : Act → World → Prop)

theorem then_mono {R R' : Act → World → Prop} (h : ∀ a w, R a w → R' a w) : ∀ e a w, Exit.then R Q e a w → Exit.then R' Q e a w := fun e a w hh => by
  cases e <;> first | exact h _ _ hh | exact hh
theorem wp_cut2 (h1 : ∀ K1 : Act → World → Prop, (∀ a w, x2.wp P (Exit.then M Q) a w → K1 a w) → x1.wp P (Exit.then K1 Q) a w) (h2 : ∀ a w, M a w → z.wp P Q a w) :
    (x1.seq (x2.seq z)).wp P Q a w :=
  wp_seq (wp_mono (h1 (fun a w => x2.wp P (Exit.then M Q) a w) (fun _ _ h => h)) (then_mono fun _ _ h => wp_seq (wp_mono h (then_mono h2))))
theorem wp_cut3 (h1 : ∀ K1 K2 : Act → World → Prop, (∀ a w, x3.wp P (Exit.then M Q) a w → K2 a w) → (∀ a w, x2.wp P (Exit.then K2 Q) a w → K1 a w) → x1.wp P (Exit.then K1 Q) a w) (h2 : ∀ a w, M a w → z.wp P Q a w) :
    (x1.seq (x2.seq (x3.seq z))).wp P Q a w :=
  wp_seq (wp_mono (h1 (fun a w => x2.wp P (Exit.then (fun a w => x3.wp P (Exit.then M Q) a w) Q) a w) (fun a w => x3.wp P (Exit.then M Q) a w) (fun _ _ h => h) (fun _ _ h => h))
    (then_mono fun _ _ h => wp_seq (wp_mono h (then_mono fun _ _ h => wp_seq (wp_mono h (then_mono h2))))))
theorem wp_cut4 (h1 : ∀ K1 K2 K3 : Act → World → Prop, (∀ a w, x4.wp P (Exit.then M Q) a w → K3 a w) → (∀ a w, x3.wp P (Exit.then K3 Q) a w → K2 a w) → (∀ a w, x2.wp P (Exit.then K2 Q) a w → K1 a w) → x1.wp P (Exit.then K1 Q) a w) (h2 : ∀ a w, M a w → z.wp P Q a w) :
    (x1.seq (x2.seq (x3.seq (x4.seq z)))).wp P Q a w :=
  wp_seq (wp_mono (h1 (fun a w => x2.wp P (Exit.then (fun a w => x3.wp P (Exit.then (fun a w => x4.wp P (Exit.then M Q) a w) Q) a w) Q) a w) (fun a w => x3.wp P (Exit.then (fun a w => x4.wp P (Exit.then M Q) a w) Q) a w) (fun a w => x4.wp P (Exit.then M Q) a w) (fun _ _ h => h) (fun _ _ h => h) (fun _ _ h => h))
    (then_mono fun _ _ h => wp_seq (wp_mono h (then_mono fun _ _ h => wp_seq (wp_mono h (then_mono fun _ _ h => wp_seq (wp_mono h (then_mono h2))))))))
end
/-- where a walk is cut: the frame (its idle slots named by one function) and what holds of the world -/
def Here {α : Type} (F : α → (Nat → Value) → Array Value) (R : α → World → Prop) (a : Act) (w : World) : Prop := ∃ (x : α) (u : Nat → Value), a = { tmps := F x u, defers := [] } ∧ R x w
theorem here_of {α : Type} {F : α → (Nat → Value) → Array Value} {R : α → World → Prop} {a : Act} {w : World} (x : α) (h : F x (fun n => a.tmps.toList.getD n undef) = a.tmps) (hd : a.defers = []) (hr : R x w) : Here F R a w := by
  refine ⟨x, fun n => a.tmps.toList.getD n undef, ?_, hr⟩
  rw [h, ← hd]
end Suture
/-
  POINTERS: ptr.Fits.
  Conditions: none.
-/
namespace Suture
open Go Go.RowKit Go.Proofs

def Ptr.fits (x : Ptr) (p : List (BitVec 8)) : Bool := (x.kd != 0) && (x.su == sum p)
theorem oneU64 : IsOne Try.prog 24 := ⟨⟨_, Try.underlying24, rfl⟩, by kernel_rfl⟩

def vFits1 (kd : Int) (su : BitVec 64) (p : List (BitVec 8)) (pb : Nat) : Nat → Value → Prop
  | 0, val => val = .pointer (some ⟨pb, 0 + 0, none⟩)
  | 1, val => val = .int .u8 kd
  | 2, val => val = .bool true
  | 3, val => val = .bool true
  | 4, val => val = .pointer (some ⟨pb, 0 + 4, none⟩)
  | 5, val => val = U su
  | 6, val => val = .agg (pageCells p)
  | 7, val => val = U (sum p)
  | 8, val => val = .bool (su == sum p)
  | 9, val => val = .bool (su == sum p)
  | 10, val => val = .bool (su == sum p)
  | _, _ => True

set_option maxHeartbeats 2000000 in
set_option maxRecDepth 100000 in
theorem fits_calls1 (x : Ptr) (p : List (BitVec 8)) (hl : p.length = 256) (hk : x.kd ≠ 0) (w : World) : Calls Try.prog 59 #[.agg x.cells, .agg (pageCells p)] w fun e w' => e = .returned (.bool (x.fits p)) ∧ Agrees All w w' := by
  obtain ⟨W1, hW1⟩ : ∃ W1, (w.alloc (.cells x.cells 48)).alloc (.cells (pageCells p) 32) = W1 := ⟨_, rfl⟩
  have hA : Agrees All w W1 := by rw [← hW1]; exact ((Agrees.refl _ w).alloc _).alloc _
  have hpr : W1.heap[w.heap.size]? = some (.cells x.cells 48 (0, 0)) := by rw [← hW1, heap_alloc_old _ _ (by simp)]; exact World.alloc_heap_new w _
  have hgr : W1.heap[w.heap.size + 1]? = some (.cells (pageCells p) 32 (0, 0)) := by
    rw [← hW1]; have := World.alloc_heap_new (w.alloc (.cells x.cells 48)) (.cells (pageCells p) 32); rwa [World.size_alloc] at this
  have HA := Lib.hid hA
  have HP := Lib.hid hpr
  have HG := Lib.hid hgr
  clear hA hpr hgr
  go_enter Try.func59, Try.ntmps59
  go_wp2_with fail
  obtain ⟨kd, a0, a1, bi, su⟩ := x
  obtain ⟨W0, hW0⟩ : ∃ W0, W1.drew = W0 := ⟨_, rfl⟩
  have hpr : W0.heap[w.heap.size]? = some (.cells (Ptr.mk kd a0 a1 bi su).cells 48 (0, 0)) := by rw [← hW0]; exact HP.out
  have hgr : W0.heap[w.heap.size + 1]? = some (.cells (pageCells p) 32 (0, 0)) := by rw [← hW0]; exact HG.out
  have hA0 : Agrees All w W0 := by rw [← hW0]; exact HA.out.drew
  have hpl := (Array.getElem?_eq_some_iff.1 hpr).1
  have hgl := (Array.getElem?_eq_some_iff.1 hgr).1
  have hkd : (kd != 0) = true := by simpa using hk
  refine wp_region_plan (by kernel_rfl) ?hok (by kernel_rfl) (vFits1 kd su p w.heap.size) (fun _ _ W => Agrees All W0 W) ?h0 (fun i hi => ?steps) ?hend
  case hok => kernel_rfl
  case h0 => exact fun vals => by rw [← hW0]; exact Agrees.refl _ _
  case steps =>
    generalize w.heap.size + 1 = gb at *
    generalize w.heap.size = pb at *
    have hi' : i < 11 := hi
    match i, hi' with
    | 0, _ =>
      refine steps_of rfl ?_
      intro L aq wq hL hd st wi
      have o2 := st.outside (t := 2) rfl (v := .pointer (some ⟨pb, 0, none⟩)) rfl
      exact opTo_val (v := .pointer (some ⟨pb, 0 + 0, none⟩)) rfl (by simp [go_sem, Act.eval, o2]) ⟨(fun h => by cases h), rfl, wi⟩
    | 1, _ =>
      refine steps_of rfl ?_
      intro L aq wq hL hd st wi
      obtain ⟨u0, e0, V0⟩ := st.val 0 _ _ rfl rfl (hd ⟨0, .data⟩ (by simp) rfl)
      obtain rfl : .pointer (some ⟨pb, 0 + 0, none⟩) = u0 := V0.symm
      exact opTo_val (v := .int .u8 kd) rfl (ex_load1 rfl oneU8 (eval_tmp e0) (by rw [cell_of_row wq _ _ _ _ _ ((wi.block pb hpl trivial).trans hpr)]; rfl)) ⟨(fun h => by cases h), rfl, wi⟩
    | 2, _ =>
      refine steps_of rfl ?_
      intro L aq wq hL hd st wi
      obtain ⟨u1, e1, V1⟩ := st.val 1 _ _ rfl rfl (hd ⟨1, .data⟩ (by simp) rfl)
      obtain rfl : .int .u8 kd = u1 := V1.symm
      exact opTo_val (v := .bool true) rfl (by simp [go_sem, Act.eval, e1, hkd]) ⟨(fun h => by cases h), rfl, wi⟩
    | 3, _ =>
      refine steps_of rfl ?_
      intro L aq wq hL hd st wi
      obtain ⟨u2, e2, V2⟩ := st.val 2 _ _ rfl rfl (hd ⟨2, .data⟩ (by simp) rfl)
      obtain rfl : .bool true = u2 := V2.symm
      exact opTo_val (v := .bool true) rfl (ex_move (.inl rfl) (eval_tmp e2)) ⟨(fun h => by cases h), rfl, wi⟩
    | 4, _ =>
      refine steps_of rfl ?_
      intro L aq wq hL hd st wi
      have o2 := st.outside (t := 2) rfl (v := .pointer (some ⟨pb, 0, none⟩)) rfl
      obtain ⟨u3, e3, V3⟩ := st.val 3 _ _ rfl rfl (hd ⟨3, .guard⟩ (by simp) rfl)
      obtain rfl : .bool true = u3 := V3.symm
      exact opTo_val (v := .pointer (some ⟨pb, 0 + 4, none⟩)) (by simp [Region.wanted, yielded, e3]) (by simp [go_sem, Act.eval, o2]) ⟨(fun h => by cases h), rfl, wi⟩
    | 5, _ =>
      refine steps_of rfl ?_
      intro L aq wq hL hd st wi
      obtain ⟨u4, e4, V4⟩ := st.val 4 _ _ rfl rfl (hd ⟨4, .data⟩ (by simp) rfl)
      obtain rfl : .pointer (some ⟨pb, 0 + 4, none⟩) = u4 := V4.symm
      obtain ⟨u3, e3, V3⟩ := st.val 3 _ _ rfl rfl (hd ⟨3, .guard⟩ (by simp) rfl)
      obtain rfl : .bool true = u3 := V3.symm
      exact opTo_val (v := U su) (by simp [Region.wanted, yielded, e3]) (ex_load1 rfl oneU64 (eval_tmp e4) (by rw [cell_of_row wq _ _ _ _ _ ((wi.block pb hpl trivial).trans hpr)]; rfl)) ⟨(fun h => by cases h), rfl, wi⟩
    | 6, _ =>
      refine steps_of rfl ?_
      intro L aq wq hL hd st wi
      have o3 := st.outside (t := 3) rfl (v := .pointer (some ⟨gb, 0, none⟩)) rfl
      obtain ⟨u3, e3, V3⟩ := st.val 3 _ _ rfl rfl (hd ⟨3, .guard⟩ (by simp) rfl)
      obtain rfl : .bool true = u3 := V3.symm
      exact opTo_val (v := .agg (pageCells p)) (by simp [Region.wanted, yielded, e3]) (ex_load rfl isAgg_page gb 0 (eval_tmp o3) (pageCells p) (by rw [pageCells_size]; exact hl) (fun j _ => by rw [Nat.zero_add]; exact cell_of_row wq _ _ _ _ _ ((wi.block gb hgl trivial).trans hgr))) ⟨(fun h => by cases h), rfl, wi⟩
    | 7, _ =>
      refine steps_of rfl ?_
      intro L aq wq hL hd st wi
      obtain ⟨u6, e6, V6⟩ := st.val 6 _ _ rfl rfl (hd ⟨6, .data⟩ (by simp) rfl)
      obtain rfl : .agg (pageCells p) = u6 := V6.symm
      obtain ⟨u3, e3, V3⟩ := st.val 3 _ _ rfl rfl (hd ⟨3, .chain⟩ (by simp) rfl)
      obtain rfl : .bool true = u3 := V3.symm
      refine opTo_call (w' := wq) (f := 32) (args := #[.agg (pageCells p)]) (by simp [Region.wanted, yielded, e3]) (by simp [go_sem, Act.eval, e6]) ((crcPage_calls p hl wq).mono ?_)
      rintro e w' ⟨rfl, hag⟩
      exact ⟨_, rfl, (fun h => by cases h), rfl, wi.trans hag⟩
    | 8, _ =>
      refine steps_of rfl ?_
      intro L aq wq hL hd st wi
      obtain ⟨u5, e5, V5⟩ := st.val 5 _ _ rfl rfl (hd ⟨5, .data⟩ (by simp) rfl)
      obtain rfl : U su = u5 := V5.symm
      obtain ⟨u7, e7, V7⟩ := st.val 7 _ _ rfl rfl (hd ⟨7, .data⟩ (by simp) rfl)
      obtain rfl : U (sum p) = u7 := V7.symm
      obtain ⟨u3, e3, V3⟩ := st.val 3 _ _ rfl rfl (hd ⟨3, .guard⟩ (by simp) rfl)
      obtain rfl : .bool true = u3 := V3.symm
      exact opTo_val (v := .bool (su == sum p)) (by simp [Region.wanted, yielded, e3]) (by simp [go_sem, Act.eval, e5, e7]) ⟨(fun h => by cases h), rfl, wi⟩
    | 9, _ =>
      refine steps_of rfl ?_
      intro L aq wq hL hd st wi
      obtain ⟨u3, e3, V3⟩ := st.val 3 _ _ rfl rfl (hd ⟨3, .data⟩ (by simp) rfl)
      obtain rfl : .bool true = u3 := V3.symm
      obtain ⟨u8, e8, V8⟩ := st.val 8 _ _ rfl rfl (hd ⟨8, .data⟩ (by simp) rfl)
      obtain rfl : .bool (su == sum p) = u8 := V8.symm
      exact opTo_val (v := .bool (su == sum p)) rfl (by simp [go_sem, Act.eval, e3, e8]) ⟨(fun h => by cases h), rfl, wi⟩
    | 10, _ =>
      refine steps_of rfl ?_
      intro L aq wq hL hd st wi
      obtain ⟨u9, e9, V9⟩ := st.val 9 _ _ rfl rfl (hd ⟨9, .data⟩ (by simp) rfl)
      obtain rfl : .bool (su == sum p) = u9 := V9.symm
      exact opTo_val (v := .bool (su == sum p)) rfl (ex_move (.inr rfl) (eval_tmp e9)) ⟨(fun h => by cases h), rfl, wi⟩
    | (i + 11), h => omega
  case hend =>
    intro vals w' hV hW
    have HF := Lib.hid (hA0.trans hW)
    have x10 : vals 10 = .bool (su == sum p) := hV 10 _ _ rfl rfl
    simp only [putAll, Act.put, List.setIfInBounds_toArray, List.set_cons_succ, List.set_cons_zero, x10]
    clear hV hW hpr hgr HP HG hA0 HA
    go_wp2_with fail
    go_ret
    refine ⟨?_, HF.out⟩
    have e : (Ptr.mk kd a0 a1 bi su).fits p = ((kd != 0) && (su == sum p)) := rfl
    rw [e, hkd]
    rfl
def vFits0 (kd : Int) (pb : Nat) : Nat → Value → Prop
  | 0, val => val = .pointer (some ⟨pb, 0 + 0, none⟩)
  | 1, val => val = .int .u8 kd
  | 2, val => val = .bool false
  | 3, val => val = .bool false
  | 4, val => val = undef
  | 5, val => val = undef
  | 6, val => val = undef
  | 7, val => val = undef
  | 8, val => val = undef
  | 9, val => val = .bool false
  | 10, val => val = .bool false
  | _, _ => True

set_option maxHeartbeats 2000000 in
set_option maxRecDepth 100000 in
theorem fits_calls0 (x : Ptr) (p : List (BitVec 8)) (hk : x.kd = 0) (w : World) : Calls Try.prog 59 #[.agg x.cells, .agg (pageCells p)] w fun e w' => e = .returned (.bool (x.fits p)) ∧ Agrees All w w' := by
  obtain ⟨W1, hW1⟩ : ∃ W1, (w.alloc (.cells x.cells 48)).alloc (.cells (pageCells p) 32) = W1 := ⟨_, rfl⟩
  have hA : Agrees All w W1 := by rw [← hW1]; exact ((Agrees.refl _ w).alloc _).alloc _
  have hpr : W1.heap[w.heap.size]? = some (.cells x.cells 48 (0, 0)) := by rw [← hW1, heap_alloc_old _ _ (by simp)]; exact World.alloc_heap_new w _
  have hgr : W1.heap[w.heap.size + 1]? = some (.cells (pageCells p) 32 (0, 0)) := by
    rw [← hW1]; have := World.alloc_heap_new (w.alloc (.cells x.cells 48)) (.cells (pageCells p) 32); rwa [World.size_alloc] at this
  have HA := Lib.hid hA
  have HP := Lib.hid hpr
  have HG := Lib.hid hgr
  clear hA hpr hgr
  go_enter Try.func59, Try.ntmps59
  go_wp2_with fail
  obtain ⟨kd, a0, a1, bi, su⟩ := x
  obtain ⟨W0, hW0⟩ : ∃ W0, W1.drew = W0 := ⟨_, rfl⟩
  have hpr : W0.heap[w.heap.size]? = some (.cells (Ptr.mk kd a0 a1 bi su).cells 48 (0, 0)) := by rw [← hW0]; exact HP.out
  have hgr : W0.heap[w.heap.size + 1]? = some (.cells (pageCells p) 32 (0, 0)) := by rw [← hW0]; exact HG.out
  have hA0 : Agrees All w W0 := by rw [← hW0]; exact HA.out.drew
  have hpl := (Array.getElem?_eq_some_iff.1 hpr).1
  have hgl := (Array.getElem?_eq_some_iff.1 hgr).1
  have hkd : (kd != 0) = false := by simpa using hk
  refine wp_region_plan (by kernel_rfl) ?hok (by kernel_rfl) (vFits0 kd w.heap.size) (fun _ _ W => Agrees All W0 W) ?h0 (fun i hi => ?steps) ?hend
  case hok => kernel_rfl
  case h0 => exact fun vals => by rw [← hW0]; exact Agrees.refl _ _
  case steps =>
    generalize w.heap.size + 1 = gb at *
    generalize w.heap.size = pb at *
    have hi' : i < 11 := hi
    match i, hi' with
    | 0, _ =>
      refine steps_of rfl ?_
      intro L aq wq hL hd st wi
      have o2 := st.outside (t := 2) rfl (v := .pointer (some ⟨pb, 0, none⟩)) rfl
      exact opTo_val (v := .pointer (some ⟨pb, 0 + 0, none⟩)) rfl (by simp [go_sem, Act.eval, o2]) ⟨(fun h => by cases h), rfl, wi⟩
    | 1, _ =>
      refine steps_of rfl ?_
      intro L aq wq hL hd st wi
      obtain ⟨u0, e0, V0⟩ := st.val 0 _ _ rfl rfl (hd ⟨0, .data⟩ (by simp) rfl)
      obtain rfl : .pointer (some ⟨pb, 0 + 0, none⟩) = u0 := V0.symm
      exact opTo_val (v := .int .u8 kd) rfl (ex_load1 rfl oneU8 (eval_tmp e0) (by rw [cell_of_row wq _ _ _ _ _ ((wi.block pb hpl trivial).trans hpr)]; rfl)) ⟨(fun h => by cases h), rfl, wi⟩
    | 2, _ =>
      refine steps_of rfl ?_
      intro L aq wq hL hd st wi
      obtain ⟨u1, e1, V1⟩ := st.val 1 _ _ rfl rfl (hd ⟨1, .data⟩ (by simp) rfl)
      obtain rfl : .int .u8 kd = u1 := V1.symm
      exact opTo_val (v := .bool false) rfl (by simp [go_sem, Act.eval, e1, hkd]) ⟨(fun h => by cases h), rfl, wi⟩
    | 3, _ =>
      refine steps_of rfl ?_
      intro L aq wq hL hd st wi
      obtain ⟨u2, e2, V2⟩ := st.val 2 _ _ rfl rfl (hd ⟨2, .data⟩ (by simp) rfl)
      obtain rfl : .bool false = u2 := V2.symm
      exact opTo_val (v := .bool false) rfl (ex_move (.inl rfl) (eval_tmp e2)) ⟨(fun h => by cases h), rfl, wi⟩
    | 4, _ =>
      refine steps_of rfl ?_
      intro L aq wq hL hd st wi
      have o2 := st.outside (t := 2) rfl (v := .pointer (some ⟨pb, 0, none⟩)) rfl
      obtain ⟨u3, e3, V3⟩ := st.val 3 _ _ rfl rfl (hd ⟨3, .guard⟩ (by simp) rfl)
      obtain rfl : .bool false = u3 := V3.symm
      exact opTo_not (by simp [Region.wanted, yielded, e3]) ⟨fun _ => rfl, rfl, wi⟩
    | 5, _ =>
      refine steps_of rfl ?_
      intro L aq wq hL hd st wi
      obtain ⟨u4, e4, V4⟩ := st.val 4 _ _ rfl rfl (hd ⟨4, .data⟩ (by simp) rfl)
      obtain rfl : undef = u4 := V4.symm
      obtain ⟨u3, e3, V3⟩ := st.val 3 _ _ rfl rfl (hd ⟨3, .guard⟩ (by simp) rfl)
      obtain rfl : .bool false = u3 := V3.symm
      exact opTo_not (by simp [Region.wanted, yielded, e3]) ⟨fun _ => rfl, rfl, wi⟩
    | 6, _ =>
      refine steps_of rfl ?_
      intro L aq wq hL hd st wi
      have o3 := st.outside (t := 3) rfl (v := .pointer (some ⟨gb, 0, none⟩)) rfl
      obtain ⟨u3, e3, V3⟩ := st.val 3 _ _ rfl rfl (hd ⟨3, .guard⟩ (by simp) rfl)
      obtain rfl : .bool false = u3 := V3.symm
      exact opTo_not (by simp [Region.wanted, yielded, e3]) ⟨fun _ => rfl, rfl, wi⟩
    | 7, _ =>
      refine steps_of rfl ?_
      intro L aq wq hL hd st wi
      obtain ⟨u6, e6, V6⟩ := st.val 6 _ _ rfl rfl (hd ⟨6, .data⟩ (by simp) rfl)
      obtain rfl : undef = u6 := V6.symm
      obtain ⟨u3, e3, V3⟩ := st.val 3 _ _ rfl rfl (hd ⟨3, .chain⟩ (by simp) rfl)
      obtain rfl : .bool false = u3 := V3.symm
      exact opTo_not (by simp [Region.wanted, yielded, e3]) ⟨fun _ => rfl, rfl, wi⟩
    | 8, _ =>
      refine steps_of rfl ?_
      intro L aq wq hL hd st wi
      obtain ⟨u5, e5, V5⟩ := st.val 5 _ _ rfl rfl (hd ⟨5, .data⟩ (by simp) rfl)
      obtain rfl : undef = u5 := V5.symm
      obtain ⟨u7, e7, V7⟩ := st.val 7 _ _ rfl rfl (hd ⟨7, .data⟩ (by simp) rfl)
      obtain rfl : undef = u7 := V7.symm
      obtain ⟨u3, e3, V3⟩ := st.val 3 _ _ rfl rfl (hd ⟨3, .guard⟩ (by simp) rfl)
      obtain rfl : .bool false = u3 := V3.symm
      exact opTo_not (by simp [Region.wanted, yielded, e3]) ⟨fun _ => rfl, rfl, wi⟩
    | 9, _ =>
      refine steps_of rfl ?_
      intro L aq wq hL hd st wi
      obtain ⟨u3, e3, V3⟩ := st.val 3 _ _ rfl rfl (hd ⟨3, .data⟩ (by simp) rfl)
      obtain rfl : .bool false = u3 := V3.symm
      obtain ⟨u8, e8, V8⟩ := st.val 8 _ _ rfl rfl (hd ⟨8, .data⟩ (by simp) rfl)
      obtain rfl : undef = u8 := V8.symm
      exact opTo_val (v := .bool false) rfl (by simp [go_sem, Act.eval, e3]) ⟨(fun h => by cases h), rfl, wi⟩
    | 10, _ =>
      refine steps_of rfl ?_
      intro L aq wq hL hd st wi
      obtain ⟨u9, e9, V9⟩ := st.val 9 _ _ rfl rfl (hd ⟨9, .data⟩ (by simp) rfl)
      obtain rfl : .bool false = u9 := V9.symm
      exact opTo_val (v := .bool false) rfl (ex_move (.inr rfl) (eval_tmp e9)) ⟨(fun h => by cases h), rfl, wi⟩
    | (i + 11), h => omega
  case hend =>
    intro vals w' hV hW
    have HF := Lib.hid (hA0.trans hW)
    have x10 : vals 10 = .bool false := hV 10 _ _ rfl rfl
    simp only [putAll, Act.put, List.setIfInBounds_toArray, List.set_cons_succ, List.set_cons_zero, x10]
    clear hV hW hpr hgr HP HG hA0 HA
    go_wp2_with fail
    go_ret
    refine ⟨?_, HF.out⟩
    rfl



theorem fits_calls (x : Ptr) (p : List (BitVec 8)) (hl : p.length = 256) (w : World) : Calls Try.prog 59 #[.agg x.cells, .agg (pageCells p)] w fun e w' => e = .returned (.bool (x.fits p)) ∧ Agrees All w w' := by
  by_cases hk : x.kd = 0
  · exact fits_calls0 x p hk w
  · exact fits_calls1 x p hl hk w

/-- a number cut to 16 bits -/
def w16 (a : Int) : Int := IntKind.u16.wrap a
/-- the pointer that is made -/
def ptrOf (kd a b bi : Int) (p : List (BitVec 8)) : Ptr := ⟨kd, w16 a, if kd = 3 then 0 else w16 b, bi, sum p⟩

end Suture
/-
  DISKS: what a disk's value reads as (pages, waiting writes, unreadable places); plain words of layer 3.
  Conditions: none beyond each theorem's own.
-/
namespace Suture
open Go Go.RowKit Go.Proofs

/-- a disk -/
structure Disk where
  pages : List (List (BitVec 8))
  cache : List (Int × List (BitVec 8))
  bad : List Int
  off : Bool
/-- a disk's value: three slices and a bit -/
structure DV where
  pa : Option Addr
  pn : Nat
  pc : Nat
  ca : Option Addr
  cn : Nat
  cc : Nat
  ba : Option Addr
  bn : Nat
  bc : Nat
  off : Bool

def DV.cells (v : DV) : Array Value := #[.slice v.pa v.pn v.pc, .slice v.ca v.cn v.cc, .slice v.ba v.bn v.bc, .bool v.off]
def pageL (p : List (BitVec 8)) : List Value := p.map B
def wrL (x : Int × List (BitVec 8)) : List Value := .int .i64 x.1 :: x.2.map B
def intL (z : Int) : List Value := [.int .i64 z]
def in64 (z : Int) : Prop := -9223372036854775808 ≤ z ∧ z ≤ 9223372036854775807
structure Disk.ok (d : Disk) : Prop where
  page : ∀ p ∈ d.pages, p.length = 256
  wr : ∀ x ∈ d.cache, in64 x.1 ∧ x.2.length = 256
  bad : ∀ z ∈ d.bad, in64 z

structure DiskAt (R : Nat → Prop) (w : World) (v : DV) (d : Disk) : Prop where
  pages : CellsAt R w (.slice v.pa v.pn v.pc) 256 v.pn (d.pages.map pageL).flatten
  pn : d.pages.length = v.pn
  cache : CellsAt R w (.slice v.ca v.cn v.cc) 257 v.cn (d.cache.map wrL).flatten
  cn : d.cache.length = v.cn
  bad : CellsAt R w (.slice v.ba v.bn v.bc) 1 v.bn (d.bad.map intL).flatten
  bn : d.bad.length = v.bn
  off : d.off = v.off
  ok : d.ok

theorem DiskAt.agrees {R S : Nat → Prop} {w w' : World} {v : DV} {d : Disk} (h : DiskAt R w v d) (hag : Agrees S w w') (hS : ∀ b, R b → S b) : DiskAt R w' v d :=
  ⟨h.pages.agrees hag hS, h.pn, h.cache.agrees hag hS, h.cn, h.bad.agrees hag hS, h.bn, h.off, h.ok⟩
theorem DiskAt.mono {R S : Nat → Prop} {w : World} {v : DV} {d : Disk} (h : DiskAt R w v d) (hS : ∀ b, R b → S b) : DiskAt S w v d :=
  ⟨h.pages.mono hS, h.pn, h.cache.mono hS, h.cn, h.bad.mono hS, h.bn, h.off, h.ok⟩
theorem CellsAt.bound {R : Nat → Prop} {w : World} {v : Value} {size n : Nat} {cs : List Value} (h : CellsAt R w v size n cs) : CellsAt (fun b => b < w.heap.size) w v size n cs := by
  obtain ⟨a, cap, hv, hn, hb, hc⟩ := h
  refine ⟨a, cap, hv, hn, hb, fun i x hx => ?_⟩
  obtain ⟨b, off, ha, _, hlt, hcell⟩ := hc i x hx
  exact ⟨b, off, ha, hlt, hlt, hcell⟩
theorem DiskAt.bound {R : Nat → Prop} {w : World} {v : DV} {d : Disk} (h : DiskAt R w v d) : DiskAt (fun b => b < w.heap.size) w v d :=
  ⟨h.pages.bound, h.pn, h.cache.bound, h.cn, h.bad.bound, h.bn, h.off, h.ok⟩
theorem CellsAt.max {R : Nat → Prop} {w : World} {a : Option Addr} {n cap size : Nat} {cs : List Value} (h : CellsAt R w (.slice a n cap) size n cs) : n ≤ 9223372036854775807 ∧ n ≤ cap := by
  obtain ⟨a', cap', hv, _, hb, _⟩ := h
  cases hv
  exact hb

theorem flat_uniform {α : Type} (f : α → List Value) (s : Nat) : ∀ (l : List α) (i j : Nat) (x : α), (∀ y ∈ l, (f y).length = s) → l[i]? = some x → j < s → ((l.map f).flatten)[i * s + j]? = (f x)[j]?
  | [], i, j, x, _, h, _ => by simp at h
  | y :: l, 0, j, x, hs, h, hj => by
    simp at h
    subst h
    rw [List.map_cons, List.flatten_cons, Nat.zero_mul, Nat.zero_add, List.getElem?_append_left (by rw [hs y (by simp)]; exact hj)]
  | y :: l, i + 1, j, x, hs, h, hj => by
    have hy := hs y (by simp)
    rw [List.map_cons, List.flatten_cons, List.getElem?_append_right (by rw [hy, Nat.succ_mul]; omega), hy]
    rw [show (i + 1) * s + j - s = i * s + j by rw [Nat.succ_mul]; omega]
    exact flat_uniform f s l i j x (fun z hz => hs z (by simp [hz])) (by simpa using h) hj
/-- an element of a slice: where it stands, and its cells -/
theorem CellsAt.elem {α : Type} {R : Nat → Prop} {w : World} {a : Option Addr} {n cap s : Nat} {f : α → List Value} {l : List α} (h : CellsAt R w (.slice a n cap) s n (l.map f).flatten) (hs : ∀ y ∈ l, (f y).length = s) (hpos : 0 < s) {i : Nat} {x : α} (hx : l[i]? = some x) :
    ∃ b off, a = some ⟨b, off, none⟩ ∧ R b ∧ b < w.heap.size ∧ ∀ j, j < s → w.cell? ⟨b, off + i * s + j, none⟩ = (f x)[j]? := by
  obtain ⟨a', cap', hv, hn, hb, hc⟩ := h
  cases hv
  have hxl := hs x (List.mem_of_getElem? hx)
  have key : ∀ j, j < s → ∃ u, ((l.map f).flatten)[i * s + j]? = some u ∧ (f x)[j]? = some u := fun j hj => by
    have e := flat_uniform f s l i j x hs hx hj
    rw [e]
    exact ⟨_, List.getElem?_eq_getElem (by omega), List.getElem?_eq_getElem (by omega)⟩
  obtain ⟨u, hu, _⟩ := key 0 hpos
  obtain ⟨b, off, rfl, hR, hlt, _⟩ := hc _ u hu
  refine ⟨b, off, rfl, hR, hlt, fun j hj => ?_⟩
  obtain ⟨u, hu, hu2⟩ := key j hj
  obtain ⟨b', off', he, _, _, hcell⟩ := hc _ u hu
  cases he
  rw [hu2, ← Nat.add_assoc] at *
  exact hcell
theorem pageL_get (p : List (BitVec 8)) (j : Nat) : (pageL p)[j]? = (pageCells p)[j]? := by
  rw [pageCells_def]; simp [pageL]
theorem pageL_cells (p : List (BitVec 8)) : (pageL p).toArray = pageCells p := by rw [pageCells_def]; rfl
theorem pageL_length (p : List (BitVec 8)) : (pageL p).length = p.length := by simp [pageL]
theorem wrL_length (x : Int × List (BitVec 8)) : (wrL x).length = x.2.length + 1 := by simp [wrL]

/-! ### the plain words of layer 3 -/
/-- rising, above 'before' and below n -/
def rising (n : Int) : Int → List Int → Bool
  | _, [] => true
  | before, z :: l => decide (before < z) && decide (z < n) && rising n z l
theorem rising_snoc (n : Int) : ∀ (l : List Int) (b z : Int), rising n b (l ++ [z]) = (rising n b l && decide (l.getLastD b < z) && decide (z < n))
  | [], b, z => by simp [rising]
  | y :: l, b, z => by
    rw [List.cons_append, rising, rising, rising_snoc n l y z]
    cases l <;> simp [Bool.and_assoc, List.getLast?_cons]
def placed (n : Int) (x : Int × List (BitVec 8)) : Bool := decide (0 ≤ x.1) && decide (x.1 < n)
def Disk.size (d : Disk) : Int := d.pages.length
def Disk.may0 (d : Disk) : Bool := decide (32 ≤ d.size) && decide (d.size ≤ 256) && decide ((d.cache.length : Int) ≤ 2000) && !(d.off && decide (0 < (d.cache.length : Int)))
def Disk.may (d : Disk) : Bool := d.may0 && d.cache.all (placed d.size) && rising d.size (-1) d.bad
/-- the first error of a place -/
def Disk.asked (d : Disk) (at' : Int) : Int := if !d.may || decide (at' < 0) || decide (d.size ≤ at') then 2 else if d.off then 30 else 0
/-- the writes that wait at a place, the last one first -/
def Disk.waits (d : Disk) (at' : Int) : List (List (BitVec 8)) := (d.cache.reverse.filter (fun x => x.1 == at')).map (·.2)
def noPage : List (BitVec 8) := List.replicate 256 0#8
/-- what is read -/
def Disk.read (d : Disk) (at' : Int) : List (BitVec 8) × Int :=
  if d.asked at' ≠ 0 then (noPage, d.asked at')
  else match d.waits at' with
    | p :: _ => (p, 0)
    | [] => if d.bad.contains at' then (noPage, 31) else (d.pages.getD at'.toNat noPage, 0)
/-- what is written -/
def Disk.writeE (d : Disk) (at' : Int) : Int := if d.asked at' = 0 then (if 2000 ≤ d.cache.length then 32 else 0) else d.asked at'
def Disk.put (d : Disk) (at' : Int) (p : List (BitVec 8)) : Disk := { d with cache := d.cache ++ [(at', p)] }
end Suture
/-
  LISTS OF PLACES AND WRITES: slices.Index, slices.Contains, slices.Backward.
  Conditions: none beyond the slices' own readings.
-/
namespace Suture
open Go Go.RowKit Go.Proofs
attribute [local go_sem] Oper.semAt_some

theorem contains_take_succ (l : List Int) (z x : Int) (i : Nat) (hx : l[i]? = some x) : (l.take (i + 1)).contains z = ((l.take i).contains z || decide (z = x)) := by
  rw [List.take_add_one, hx]
  simp

set_option maxHeartbeats 400000 in
theorem index_calls (a : Option Addr) (n cap : Nat) (l : List Int) (z : Int) (w : World) (hl : l.length = n) (hv : CellsAt All w (.slice a n cap) 1 n (l.map intL).flatten) :
    Calls Try.prog 77 #[.slice a n cap, .int .i64 z] w fun e w' => ∃ r : Int, e = .returned (.int .i64 r) ∧ RowKit.Hid (0 ≤ r ↔ z ∈ l) ∧ w = w' := by
  have hmax := hv.max.1
  have HV := Lib.hid hv
  have HL := Lib.hid hl
  clear hv hl
  go_enter Try.func77, Try.ntmps77
  go_wp2
  go_loop [8] (fun v => ∃ i : Nat, i ≤ n ∧ v = .int .i64 i ∧ RowKit.Hid ((l.take i).contains z = false)) (fun v => n - (intOf v).toNat)
  case atStart => exact ⟨0, by omega, rfl, by simp [RowKit.Hid]⟩
  case round =>
    obtain ⟨i, hi, rfl, HC⟩ := hrel
    by_cases hlt : i < n
    · obtain ⟨x, hx⟩ : ∃ x, l[i]? = some x := ⟨_, List.getElem?_eq_getElem (by rw [HL.out]; exact hlt)⟩
      obtain ⟨b, off, rfl, _, hbl, hc⟩ := HV.out.elem (f := intL) (fun y _ => rfl) (by omega) hx
      have hcell : w.cell? ⟨b, off + i, none⟩ = some (.int .i64 x) := by have := hc 0 (by omega); simpa [intL] using this
      have HX := Lib.hid (contains_take_succ l z x i hx)
      have HXX := Lib.hid hx
      clear hc hx
      by_cases hzx : z = x
      · subst hzx
        go_wp2
        go_ret
        refine ⟨i, rfl, Lib.hid ?_, rfl⟩
        exact ⟨fun _ => List.mem_of_getElem? HXX.out, fun _ => by omega⟩
      · go_wp2
        go_round
        case rel => exact ⟨i + 1, by omega, by go_num, Lib.hid (by rw [HX.out, HC.out]; simp [hzx])⟩
        case measure => simp [intOf]; omega
    · obtain rfl : i = n := by omega
      go_wp2
      go_ret
      refine ⟨-1, rfl, Lib.hid ?_, rfl⟩
      have h := HC.out
      rw [List.take_of_length_le (by rw [HL.out]; exact Nat.le_refl _)] at h
      exact ⟨fun h => by omega, fun hm => by rw [← List.contains_iff_mem, h] at hm; cases hm⟩
theorem contains_calls (a : Option Addr) (n cap : Nat) (l : List Int) (z : Int) (w : World) (hl : l.length = n) (hv : CellsAt All w (.slice a n cap) 1 n (l.map intL).flatten) :
    Calls Try.prog 70 #[.slice a n cap, .int .i64 z] w fun e w' => e = .returned (.bool (l.contains z)) ∧ w = w' := by
  have HI := Lib.hid (index_calls a n cap l z w hl hv)
  clear hv
  go_enter Try.func70, Try.ntmps70
  go_wp2_with fail
  refine HI.out.mono ?_
  rintro e w' ⟨r, rfl, hr, rfl⟩
  go_wp2_with fail
  go_ret
  have hd : decide (0 ≤ r) = l.contains z := by
    rw [Bool.eq_iff_iff]; simpa using hr.out
  exact ⟨by rw [← hd]; rfl, rfl⟩

/-! ### slices.Backward over writes -/
def wrCells (x : Int × List (BitVec 8)) : Array Value := (wrL x).toArray
theorem wrCells_size (x : Int × List (BitVec 8)) (h : x.2.length = 256) : (wrCells x).size = 257 := by simp [wrCells, wrL_length, h]
theorem wrCells_get (x : Int × List (BitVec 8)) (j : Nat) : (wrCells x)[j]? = (wrL x)[j]? := by simp [wrCells]
attribute [irreducible] wrCells
theorem isAgg_write : IsAgg Try.prog 75 257 := ⟨⟨_, Try.underlying75, rfl⟩, by kernel_rfl⟩
def noWr : Int × List (BitVec 8) := (0, [])

theorem backwardW_calls (a : Option Addr) (n cap : Nat) (w : World) :
    Calls Try.prog 76 #[.slice a n cap] w fun e w' => e = .returned (.func (.func 81) #[] #[.pointer (some ⟨w.heap.size, 0, none⟩)]) ∧ w.alloc (.cells #[.slice a n cap] 34) = w' := by
  go_enter Try.func76, Try.ntmps76
  go_wp2
  go_ret
  exact ⟨rfl, rfl⟩

set_option maxHeartbeats 1000000 in
set_option maxRecDepth 100000 in
theorem backwardW1_iter (R : Nat → Prop) (n₀ : Nat) (w0 : World) (Bx : Nat) (a : Option Addr) (n cap : Nat) (l : List (Int × List (BitVec 8))) (hbox : w0.heap[Bx]? = some (.cells #[.slice a n cap] 34 (0, 0))) (hRB : R Bx)
    (hl : l.length = n) (hok : ∀ x ∈ l, x.2.length = 256) (hv : CellsAt R w0 (.slice a n cap) 257 n (l.map wrL).flatten) (hR : ∀ b, R b → b < w0.heap.size) :
    IterAt Try.prog 81 #[.pointer (some ⟨Bx, 0, none⟩)] (fun k => #[.int .i64 ((n - 1 - k : Nat) : Int), .agg (wrCells (l.getD (n - 1 - k) noWr))]) n n₀ R w0 := by
  intro l' J Jx C W hag hC hJ hJx hY h0
  refine (callsIn_wide (n := 0)).1 ?_
  have hB := (Array.getElem?_eq_some_iff.1 hbox).1
  have hbW := (hag.block Bx hB hRB).trans hbox
  have hbW0 : W.cell? ⟨Bx, 0, none⟩ = some (.slice a n cap) := cell_of_row W _ 0 _ _ _ hbW
  have hbd := hv.max.1
  have hat : ∀ i, i < n → ∃ b off, a = some ⟨b, off, none⟩ ∧ R b ∧ b < w0.heap.size ∧ (l.getD i noWr).2.length = 256 ∧ ∀ j, j < 257 → w0.cell? ⟨b, off + i * 257 + j, none⟩ = (wrCells (l.getD i noWr))[j]? := fun i hi => by
    have hx : l[i]? = some (l.getD i noWr) := by rw [List.getD_eq_getElem?_getD, List.getElem?_eq_getElem (by omega)]; rfl
    obtain ⟨b, off, ha, hRb, hlt, hc⟩ := hv.elem (f := wrL) (fun y hy => by rw [wrL_length, hok y hy]) (by omega) hx
    exact ⟨b, off, ha, hRb, hlt, hok _ (List.mem_of_getElem? hx), fun j hj => by rw [wrCells_get]; exact hc j hj⟩
  have HBX := Lib.hid hbox
  have HAT := Lib.hid hat
  clear hv hbox hbW hat hok
  have hFn : ∀ f, Fence.wide.fn f := fun _ => trivial
  have hro : Fence.wide.round = none := rfl
  have hdp : Fence.wide.depth = none := rfl
  generalize Fence.wide = F at *
  refine callsIn_of_wp Try.func81 rfl (hFn _) ?_ hro
  simp only [Try.ntmps81, List.size_toArray, List.length_cons, List.length_nil, Nat.reduceAdd, Nat.reduceSub, Array.replicate_succ, Array.replicate_zero, List.push_toArray, List.append_toArray, List.nil_append, List.cons_append]
  have hw1 : IntKind.i64.wrap ((n : Int) - 1) = (n : Int) - 1 := by rw [IntKind.wrap_i64]; omega
  gi_wp2
  gi_loopw [3] (fun v wr => ∃ (C : Nat → Prop) (j : Nat), j ≤ n ∧ v = .int .i64 ((j : Int) - 1) ∧ J (n - j) C wr ∧ RowKit.Hid (Agrees R w0 wr) ∧ RowKit.Hid (∀ b, C b → ¬ R b ∧ b < wr.heap.size)) (fun v _ => (intOf v + 1).toNat)
  case atStart => exact ⟨C, n, by omega, by simp, by simpa using h0, hag, hC⟩
  case round =>
    obtain ⟨C, j, hk, rfl, hj, HA, HC⟩ := hrel
    cases j with
    | succ q =>
      have hqe : (((q + 1 : Nat) : Int)) - 1 = (q : Int) := by omega
      rw [hqe]
      obtain ⟨b, off, rfl, hRb, hbl, hsz, hcell⟩ := HAT.out q (by omega)
      have c1 : wr.cell? ⟨Bx, 0, none⟩ = some (.slice (some ⟨b, off, none⟩) n cap) := cell_of_row wr _ 0 _ _ _ ((HA.out.block Bx hB hRB).trans HBX.out)
      have HC2 := Lib.hid (show ∀ j, j < 257 → wr.cell? ⟨b, off + q * 257 + j, none⟩ = (wrCells (l.getD q noWr))[j]? from fun j hj => (HA.out.cell (p := ⟨b, off + q * 257 + j, none⟩) hbl hRb).trans (hcell j hj))
      have HSZ := Lib.hid (wrCells_size _ hsz)
      have hy0 := hY (n - (q + 1)) C wr (by omega) hj (fun b hb => (HC.out b hb).2)
      rw [show n - 1 - (n - (q + 1)) = q by omega] at hy0
      obtain ⟨fn, tmps, assign, body, hy, hR'⟩ := hy0
      have hwk : IntKind.i64.wrap ((q : Int) - 1) = (q : Int) - 1 := by rw [IntKind.wrap_i64]; omega
      clear hcell hqe hsz
      generalize l.getD q noWr = x at *
      gi_wp2_with (refine wpListIn_val hFn (by rw [hro]; rfl) rfl (ex_load (ty := 75) rfl isAgg_write b (off + q * 257) rfl (wrCells x) HSZ.out HC2.out) ?_)
      refine hR'.mono ?_
      rintro e W3 (⟨rfl, hag3, C3, hj3, hC3⟩ | ⟨rfl, hag3, C3, hj3, hC3⟩)
      · have HA3 := Lib.hid (HA.out.trans' hag3 (fun b hb hr hc => (HC.out b hc).1 hr))
        have HC4 : RowKit.Hid (∀ b, C3 b → ¬ R b ∧ b < W3.heap.size) := fun b hb => ⟨fun hr => ((hC3 b hb).2.elim (fun h => (HC.out b h).1 hr) (fun h => by have := hR b hr; have := HA.out.size; omega)), (hC3 b hb).1⟩
        rw [show n - (q + 1) + 1 = n - q by omega] at hj3
        clear hag3 hC3
        gi_wp2
        exact ⟨⟨C3, q, by omega, rfl, hj3, HA3, HC4⟩, by simp [intOf]⟩
      · gi_wp2
        refine bodyPost_ret (results_none rfl _ _ _) rfl ?_
        exact ⟨⟨_, rfl⟩, C3, .inr ⟨_, by omega, hj3⟩⟩
    | zero =>
      gi_wp2
      go_end0
      exact ⟨⟨_, rfl⟩, C, .inl (by simpa using hj)⟩
end Suture
/-
  A RANGE OVER A FUNCTION, the loop's variable boxed anew in every round (no program): the law of Iter beside it.
  Conditions: none beyond the theorem's own.
-/
namespace Suture
open Go Go.RowKit

variable {P : Program}

theorem fold1 (t : Array Value) (p : Tmp) (x : Value) : ((#[p] : Array Tmp).zip #[x]).foldl (fun t (p, v) => t.setIfInBounds p v) t = t.setIfInBounds p x := by simp
theorem fold2 (t : Array Value) (p q : Tmp) (x y : Value) : ((#[p, q] : Array Tmp).zip #[x, y]).foldl (fun t (p, v) => t.setIfInBounds p v) t = (t.setIfInBounds p x).setIfInBounds q y := by simp

theorem wp_rangeFunc_box {g : Operand} {ps : Array Tmp} {assign body : Code} {Q : Exit → Act → World → Prop} {a : Act} {w : World}
    {gf : Nat} {lb : Array Value} (hg : a.eval g = .func (.func gf) #[] lb) (eg : ∀ args w, (callFunc gf args).run P w = .ok (.enter gf args) w)
    {encs : Nat → Array Value} {N n₀ : Nat} {R : Nat → Prop} {w0 : World} (hit : IterAt P gf lb encs N n₀ R w0)
    (hR0 : Agrees R w0 w) (hRw : ∀ b, R b → b < w.heap.size) (hn0 : n₀ ≤ w.heap.size) (hps : ∀ k, (encs k).size = ps.size)
    (C : Nat → Prop) (hC : ∀ b, C b → ¬ R b ∧ b < w.heap.size)
    (I : Nat → (Nat → Prop) → World → Prop) (Ix : Code → Nat → (Nat → Prop) → World → Prop) (hI : Stab n₀ I) (hIx : ∀ c, Stab n₀ (Ix c)) (h0 : I 0 C w)
    (a₁ : Nat → Nat → Act) (cs : Nat → Array Value) (tb : TypeId)
    (hassign : ∀ (l k : Nat) (W : World) (K : Act → World → Prop), k < N → (∀ (b : Nat) (W' : World), Agrees All W W' → W.heap.size ≤ b → W'.heap[b]? = some (.cells (cs k) tb (0, 0)) → K (a₁ k b) W') →
      assign.wpIn (Fence.wide.inRound l) 0 P (Exit.then K (fun _ _ _ => False)) { tmps := (ps.zip (encs k)).foldl (fun t (p, v) => t.setIfInBounds p v) a.tmps, defers := [] } W)
    (hbody : ∀ (l k b : Nat) (C : Nat → Prop) (W : World), k < N → I k C W → (∀ b, C b → b < W.heap.size) → w.heap.size ≤ W.heap.size → W.heap[b]? = some (.cells (cs k) tb (0, 0)) → ¬ C b → w.heap.size ≤ b →
      body.wpIn (Fence.wide.inRound l) 0 P (iterPost I Ix k C W) (a₁ k b) W)
    (hdone : ∀ (D : Nat) (C : Nat → Prop) (W : World), w.heap.size ≤ D → I N C W → W.heap[D]? = some (.deferred (some [])) → ¬ C D →
      Q .normal { a with defers := { target := .collected D, args := #[] } :: a.defers } W)
    (hstop : ∀ (D k : Nat) (c : Code) (C : Nat → Prop) (W : World), w.heap.size ≤ D → k < N → Ix c k C W → W.heap[D]? = some (.deferred (some [])) → ¬ C D →
      c.wp P Q { a with defers := { target := .collected D, args := #[] } :: a.defers } W) :
    (Code.rangeFunc g ps assign body).wp P Q a w := by
  refine (wpIn_wide (n := 0)).1 (wpIn_rangeFunc ?_)
  intro fn hfn
  show ∃ l mark w₁ d w₁' f args w₂, (Instr.enterLoop fn a.tmps ps assign body none).run P w = .ok (l, mark) w₁ ∧ _
  obtain ⟨rec, hrec⟩ : ∃ rec : LoopState → Option Code → Loop, rec = fun st pe => { state := st, pending := pe, fn, tmps := a.tmps, params := ps, assign, body, defers := w.heap.size } := ⟨_, rfl⟩
  obtain ⟨W1, hW1⟩ : ∃ W1, (w.alloc (.deferred (some []))).alloc (.loop (rec .ready none)) = W1 := ⟨_, rfl⟩
  have hL1 : W1.heap[w.heap.size + 1]? = some (.loop (rec .ready none)) := by
    rw [← hW1]; have := World.alloc_heap_new (w.alloc (.deferred (some []))) (.loop (rec .ready none)); rwa [World.size_alloc] at this
  have hK1 : W1.heap[w.heap.size]? = some (.deferred (some [])) := by
    rw [← hW1]; exact (Below.heap_alloc _ _ _ (by simp)).trans (World.alloc_heap_new w _)
  have hA1 : Agrees All w W1 := by rw [← hW1]; exact ((Agrees.refl _ w).alloc _).alloc _
  have hI1 : I 0 C W1 := hI _ _ _ _ h0 hA1.weak
  have hsz : W1.heap.size = w.heap.size + 2 := by rw [← hW1]; simp
  have hb1 : Agrees R w0 W1 := hR0.trans hA1.weak
  refine ⟨w.heap.size + 1, [{ target := .collected w.heap.size, args := #[] }], W1, { target := .fn (.func gf) lb, args := #[.func (.yield (w.heap.size + 1)) #[] #[]] }, W1, gf,
    #[.func (.yield (w.heap.size + 1)) #[] #[]] ++ lb, W1, ?_, ?_, ?_, ?_, ?_, ?_⟩
  · rw [← hW1, hrec]; exact run_enterLoop_outer _ _ _ _ _
  · simp only [resolve, hg]
    simp [go_sem]
  · intro f' hf'; exact trivial
  · simp [invoke, go_sem, eg]
  · intro h; cases h
  · refine callsIn_wide.2 ?_
    refine (hit (w.heap.size + 1)
      (fun k C' W => ∃ C, I k C W ∧ ¬ C w.heap.size ∧ ¬ C (w.heap.size + 1) ∧ C' = (fun b => C b ∨ b = w.heap.size ∨ b = w.heap.size + 1) ∧
        W.heap[w.heap.size + 1]? = some (.loop (rec .ready none)) ∧ W.heap[w.heap.size]? = some (.deferred (some [])))
      (fun k C' W => ∃ C c, Ix c k C W ∧ ¬ C w.heap.size ∧ ¬ C (w.heap.size + 1) ∧ C' = (fun b => C b ∨ b = w.heap.size ∨ b = w.heap.size + 1) ∧
        W.heap[w.heap.size + 1]? = some (.loop (rec .done (some c))) ∧ W.heap[w.heap.size]? = some (.deferred (some [])))
      (fun b => C b ∨ b = w.heap.size ∨ b = w.heap.size + 1) W1 hb1 ?_ ?_ ?_ ?_ ⟨C, hI1, fun h => by have := hC _ h; omega, fun h => by have := hC _ h; omega, rfl, hL1, hK1⟩).mono ?_
    · intro b hb
      rcases hb with hb | rfl | rfl
      · have := hC _ hb; exact ⟨this.1, by omega⟩
      · exact ⟨fun h => by have := hRw _ h; omega, by omega⟩
      · exact ⟨fun h => by have := hRw _ h; omega, by omega⟩
    · rintro k C' W W' ⟨C, hi, hc1, hc2, rfl, hl, hk⟩ hag
      refine ⟨C, hI _ _ _ _ hi (hag.mono fun b _ hb => ?_), hc1, hc2, rfl, ?_, ?_⟩
      · rcases hb with hb | hb
        · exact .inl (.inl hb)
        · exact .inr hb
      · exact (hag.block _ (Array.getElem?_eq_some_iff.1 hl).1 (.inl (.inr (.inr rfl)))).trans hl
      · exact (hag.block _ (Array.getElem?_eq_some_iff.1 hk).1 (.inl (.inr (.inl rfl)))).trans hk
    · rintro k C' W W' ⟨C, c, hi, hc1, hc2, rfl, hl, hk⟩ hag
      refine ⟨C, c, hIx c _ _ _ _ hi (hag.mono fun b _ hb => ?_), hc1, hc2, rfl, ?_, ?_⟩
      · rcases hb with hb | hb
        · exact .inl (.inl hb)
        · exact .inr hb
      · exact (hag.block _ (Array.getElem?_eq_some_iff.1 hl).1 (.inl (.inr (.inr rfl)))).trans hl
      · exact (hag.block _ (Array.getElem?_eq_some_iff.1 hk).1 (.inl (.inr (.inl rfl)))).trans hk
    · -- ONE ROUND
      rintro k C' W hkN ⟨C, hi, hc1, hc2, rfl, hl, hk⟩ hCW
      have hlt : w.heap.size + 1 < W.heap.size := (Array.getElem?_eq_some_iff.1 hl).1
      have hy := run_yield (P := P) (args := encs k) hl (by rw [hrec]; exact hps k)
      rw [hrec] at hy
      have hiW := hi
      refine ⟨fn, _, assign, body, hy, roundIn_of_wpIn hfn (hassign _ k W _ hkN (fun bx Wa hagW hbx hbox => ?_))⟩
      have hla := (hagW.block _ (Array.getElem?_eq_some_iff.1 hl).1 trivial).trans hl
      have hka := (hagW.block _ (Array.getElem?_eq_some_iff.1 hk).1 trivial).trans hk
      have hia : I k C Wa := hI _ _ _ _ hi hagW.weak
      have hCa : ∀ b, C b → b < W.heap.size := fun b hb => hCW b (.inl hb)
      have hszW := hagW.size
      have hnb : bx ≠ w.heap.size + 1 := by omega
      refine ⟨_, run_beginRound hla (by rw [hrec]), ?_⟩
      clear hiW
      obtain ⟨Wb, hWb⟩ : ∃ Wb, Wa.putObj (w.heap.size + 1) (.loop { rec .ready none with state := .busy }) = Wb := ⟨_, rfl⟩
      rw [hWb]
      have hl2 : Wb.heap[w.heap.size + 1]? = some (.loop { rec .ready none with state := .busy }) := by rw [← hWb]; exact World.putObj_heap_same (by omega)
      have hk2 : Wb.heap[w.heap.size]? = some (.deferred (some [])) := by rw [← hWb]; exact (World.putObj_heap_other (by omega)).trans hka
      have hagb : Agrees (fun b => b ≠ w.heap.size + 1) Wa Wb := by rw [← hWb]; exact (Agrees.refl _ Wa).putObj (.inl (fun h => h rfl)) _
      have hszb : Wb.heap.size = Wa.heap.size := by rw [← hWb]; simp
      have hbxb : Wb.heap[bx]? = some (.cells (cs k) tb (0, 0)) := (hagb.block _ (Array.getElem?_eq_some_iff.1 hbox).1 hnb).trans hbox
      have hib : I k C Wb := hI _ _ _ _ hia (hagb.mono fun b hb hb' => by
        intro e; subst e
        rcases hb' with hb' | hb'
        · exact hc2 hb'
        · omega)
      refine wpIn_mono (hbody _ k bx C Wb hkN hib (fun b hb => by rw [hszb]; have := hCa b hb; omega) (by omega) hbxb (fun h => by have := hCa _ h; omega) (by omega)) ?_
      have fin : ∀ (jump : Option Code) (W3 : World), Agrees (fun b => ¬ C b) Wb W3 →
          (Instr.endRound (w.heap.size + 1) jump).run P W3 = .ok (.bool jump.isNone) (W3.putObj (w.heap.size + 1) (.loop (rec (if jump.isNone then .ready else .done) jump))) ∧
          (W3.putObj (w.heap.size + 1) (.loop (rec (if jump.isNone then .ready else .done) jump))).heap[w.heap.size + 1]? = some (.loop (rec (if jump.isNone then .ready else .done) jump)) ∧
          (W3.putObj (w.heap.size + 1) (.loop (rec (if jump.isNone then .ready else .done) jump))).heap[w.heap.size]? = some (.deferred (some [])) ∧
          Agrees (fun b => b ≠ w.heap.size + 1) W3 (W3.putObj (w.heap.size + 1) (.loop (rec (if jump.isNone then .ready else .done) jump))) ∧ w.heap.size + 1 < W3.heap.size := fun jump W3 hag => by
        have hl3 : W3.heap[w.heap.size + 1]? = some (.loop { rec .ready none with state := .busy }) := (hag.block _ (by omega) hc2).trans hl2
        have hk3 : W3.heap[w.heap.size]? = some (.deferred (some [])) := (hag.block _ (by omega) hc1).trans hk2
        have hlt3 := (Array.getElem?_eq_some_iff.1 hl3).1
        have := run_endRound (P := P) jump hl3
        rw [hrec] at this ⊢
        exact ⟨this, World.putObj_heap_same hlt3, (World.putObj_heap_other (by omega)).trans hk3, (Agrees.refl _ W3).putObj (.inl (fun h => h rfl)) _, hlt3⟩
      have fin2 : ∀ (o : Obj) (W3 : World), Agrees (fun b => ¬ C b) Wb W3 →
          Agrees (fun b => ¬ (C b ∨ b = w.heap.size ∨ b = w.heap.size + 1)) W (W3.putObj (w.heap.size + 1) o) := fun o W3 hag => by
        refine (((hagW.weak (R := fun b => ¬ (C b ∨ b = w.heap.size ∨ b = w.heap.size + 1))).trans (hagb.mono (R' := fun b => ¬ (C b ∨ b = w.heap.size ∨ b = w.heap.size + 1)) fun b _ h e => h (.inr (.inr e)))).trans
          (hag.mono fun b _ h h' => h (.inl h'))).putObj (.inl fun h => h (.inr (.inr rfl))) _
      rintro e a3 W3 hp
      cases e with
      | normal =>
        obtain ⟨hag, C', hi3, hC'⟩ := hp
        obtain ⟨hr, hl4, hk4, hag4, hlt3⟩ := fin none W3 hag
        have n1 : ¬ C' w.heap.size := fun h => (hC' _ h).2.elim hc1 (fun h => by omega)
        have n2 : ¬ C' (w.heap.size + 1) := fun h => (hC' _ h).2.elim hc2 (fun h => by omega)
        refine ⟨_, _, hr, .inl ⟨rfl, fin2 _ _ hag, _, ⟨C', hI _ _ _ _ hi3 (hag4.mono fun b hb hb' e => ?_), n1, n2, rfl, hl4, hk4⟩, fun b hb => ?_⟩⟩
        · subst e
          rcases hb' with hb' | hb'
          · exact n2 hb'
          · omega
        · rcases hb with hb | rfl | rfl
          · have := hC' b hb
            refine ⟨by simpa using this.1, ?_⟩
            rcases this.2 with h | h
            · exact .inl (.inl h)
            · exact .inr (by omega)
          · exact ⟨by simp; omega, .inl (.inr (.inl rfl))⟩
          · exact ⟨by simp; omega, .inl (.inr (.inr rfl))⟩
      | ret =>
        obtain ⟨hag, C', hi3, hC'⟩ := hp
        obtain ⟨hr, hl4, hk4, hag4, hlt3⟩ := fin (some .ret) W3 hag
        have n1 : ¬ C' w.heap.size := fun h => (hC' _ h).2.elim hc1 (fun h => by omega)
        have n2 : ¬ C' (w.heap.size + 1) := fun h => (hC' _ h).2.elim hc2 (fun h => by omega)
        refine ⟨_, _, hr, .inr ⟨rfl, fin2 _ _ hag, _, ⟨C', .ret, hIx _ _ _ _ _ hi3 (hag4.mono fun b hb hb' e => ?_), n1, n2, rfl, hl4, hk4⟩, fun b hb => ?_⟩⟩
        · subst e
          rcases hb' with hb' | hb'
          · exact n2 hb'
          · omega
        · rcases hb with hb | rfl | rfl
          · have := hC' b hb
            refine ⟨by simpa using this.1, ?_⟩
            rcases this.2 with h | h
            · exact .inl (.inl h)
            · exact .inr (by omega)
          · exact ⟨by simp; omega, .inl (.inr (.inl rfl))⟩
          · exact ⟨by simp; omega, .inl (.inr (.inr rfl))⟩
      | exit id =>
        obtain ⟨hag, C', hi3, hC'⟩ := hp
        obtain ⟨hr, hl4, hk4, hag4, hlt3⟩ := fin (some (.exit id)) W3 hag
        have n1 : ¬ C' w.heap.size := fun h => (hC' _ h).2.elim hc1 (fun h => by omega)
        have n2 : ¬ C' (w.heap.size + 1) := fun h => (hC' _ h).2.elim hc2 (fun h => by omega)
        refine ⟨_, _, hr, .inr ⟨rfl, fin2 _ _ hag, _, ⟨C', .exit id, hIx _ _ _ _ _ hi3 (hag4.mono fun b hb hb' e => ?_), n1, n2, rfl, hl4, hk4⟩, fun b hb => ?_⟩⟩
        · subst e
          rcases hb' with hb' | hb'
          · exact n2 hb'
          · omega
        · rcases hb with hb | rfl | rfl
          · have := hC' b hb
            refine ⟨by simpa using this.1, ?_⟩
            rcases this.2 with h | h
            · exact .inl (.inl h)
            · exact .inr (by omega)
          · exact ⟨by simp; omega, .inl (.inr (.inl rfl))⟩
          · exact ⟨by simp; omega, .inl (.inr (.inr rfl))⟩
      | goto t =>
        obtain ⟨hag, C', hi3, hC'⟩ := hp
        obtain ⟨hr, hl4, hk4, hag4, hlt3⟩ := fin (some (.goto t)) W3 hag
        have n1 : ¬ C' w.heap.size := fun h => (hC' _ h).2.elim hc1 (fun h => by omega)
        have n2 : ¬ C' (w.heap.size + 1) := fun h => (hC' _ h).2.elim hc2 (fun h => by omega)
        refine ⟨_, _, hr, .inr ⟨rfl, fin2 _ _ hag, _, ⟨C', .goto t, hIx _ _ _ _ _ hi3 (hag4.mono fun b hb hb' e => ?_), n1, n2, rfl, hl4, hk4⟩, fun b hb => ?_⟩⟩
        · subst e
          rcases hb' with hb' | hb'
          · exact n2 hb'
          · omega
        · rcases hb with hb | rfl | rfl
          · have := hC' b hb
            refine ⟨by simpa using this.1, ?_⟩
            rcases this.2 with h | h
            · exact .inl (.inl h)
            · exact .inr (by omega)
          · exact ⟨by simp; omega, .inl (.inr (.inl rfl))⟩
          · exact ⟨by simp; omega, .inl (.inr (.inr rfl))⟩
      | panic ch => exact hp.elim
      | outgrown => exact hp.elim
    · -- BEHIND THE ITERATOR
      rintro e W2 ⟨⟨v, rfl⟩, C', (⟨C, hi, hc1, hc2, rfl, hl, hk⟩ | ⟨k, hkN, C, c, hi, hc1, hc2, rfl, hl, hk⟩)⟩
      · have hag : Agrees (fun b => b ≠ w.heap.size + 1) W2 (W2.putObj (w.heap.size + 1) (.loop { rec .ready none with state := .exhausted })) := (Agrees.refl _ W2).putObj (.inl (fun h => h rfl)) _
        refine ⟨none, _, by have := run_endLoop (P := P) hl (by rw [hrec]; simp); rw [hrec] at this ⊢; exact this, hdone w.heap.size C _ (Nat.le_refl _) (hI _ _ _ _ hi (hag.mono fun b hb hb' e => ?_)) ((World.putObj_heap_other (by omega)).trans hk) hc1⟩
        subst e
        rcases hb' with hb' | hb'
        · exact hc2 hb'
        · omega
      · have hag : Agrees (fun b => b ≠ w.heap.size + 1) W2 (W2.putObj (w.heap.size + 1) (.loop { rec .done (some c) with state := .exhausted })) := (Agrees.refl _ W2).putObj (.inl (fun h => h rfl)) _
        refine ⟨some c, _, by have := run_endLoop (P := P) hl (by rw [hrec]; simp); rw [hrec] at this ⊢; exact this, (wpIn_wide (n := 0)).2 (hstop w.heap.size k c C _ (Nat.le_refl _) hkN (hIx c _ _ _ _ hi (hag.mono fun b hb hb' e => ?_)) ((World.putObj_heap_other (by omega)).trans hk) hc1)⟩
        subst e
        rcases hb' with hb' | hb'
        · exact hc2 hb'
        · omega

end Suture
/-
  THE WRITES THAT WAIT AT A PLACE: vdev.last and its iterator.
  Conditions: none beyond the disk's own reading.
-/
namespace Suture
open Go Go.RowKit Go.Proofs
attribute [local go_sem] Oper.semAt_some

theorem last_calls (v : DV) (at' : Int) (w : World) :
    Calls Try.prog 69 #[.agg v.cells, .int .i64 at'] w fun e w' => e = .returned (.func (.func 75) #[] #[.pointer (some ⟨w.heap.size, 0, none⟩), .pointer (some ⟨w.heap.size + 1, 0, none⟩)]) ∧
      (w.alloc (.cells v.cells 37)).alloc (.cells #[.int .i64 at'] 3) = w' := by
  go_enter Try.func69, Try.ntmps69
  go_wp2
  go_ret
  exact ⟨rfl, rfl⟩

/-- how many of the last k writes are at a place -/
def Disk.cnt (d : Disk) (at' : Int) (k : Nat) : Nat := ((d.cache.reverse.take k).filter (fun x => x.1 == at')).length
theorem Disk.cnt_all (d : Disk) (at' : Int) : d.cnt at' d.cache.length = (d.waits at').length := by
  unfold Disk.cnt Disk.waits
  rw [List.take_of_length_le (by simp), List.length_map]
theorem rev_get (l : List (Int × List (BitVec 8))) (k : Nat) (hk : k < l.length) : l.reverse[k]? = some (l.getD (l.length - 1 - k) noWr) := by
  rw [List.getElem?_reverse hk, List.getD_eq_getElem?_getD, List.getElem?_eq_getElem (by omega)]; rfl
theorem Disk.cnt_succ (d : Disk) (at' : Int) (k : Nat) (hk : k < d.cache.length) :
    d.cnt at' (k + 1) = d.cnt at' k + (if (d.cache.getD (d.cache.length - 1 - k) noWr).1 = at' then 1 else 0) := by
  unfold Disk.cnt
  rw [List.take_add_one, rev_get _ _ hk, List.filter_append, List.length_append]
  congr 1
  simp only [Option.toList, List.filter_cons, List.filter_nil]
  split <;> rename_i h <;> simp_all
theorem Disk.cnt_get (d : Disk) (at' : Int) (k : Nat) (hk : k < d.cache.length) (h : (d.cache.getD (d.cache.length - 1 - k) noWr).1 = at') :
    d.cnt at' k < (d.waits at').length ∧ (d.waits at').getD (d.cnt at' k) [] = (d.cache.getD (d.cache.length - 1 - k) noWr).2 := by
  have e : d.cache.reverse = d.cache.reverse.take k ++ (d.cache.getD (d.cache.length - 1 - k) noWr) :: d.cache.reverse.drop (k + 1) := by
    have h1 := List.take_append_drop k d.cache.reverse
    rw [List.drop_eq_getElem_cons (by simpa using hk)] at h1
    have h2 := rev_get d.cache k hk
    rw [List.getElem?_eq_getElem (by simpa using hk)] at h2
    rw [Option.some.inj h2] at h1
    exact h1.symm
  have hw : d.waits at' = ((d.cache.reverse.take k).filter (fun x => x.1 == at')).map (·.2) ++ (d.cache.getD (d.cache.length - 1 - k) noWr).2 :: ((d.cache.reverse.drop (k + 1)).filter (fun x => x.1 == at')).map (·.2) := by
    unfold Disk.waits
    conv => lhs; rw [e]
    rw [List.filter_append, List.filter_cons, if_pos (by simpa using h), List.map_append, List.map_cons]
  constructor
  · rw [hw]; simp [Disk.cnt]
  · rw [hw, List.getD_eq_getElem?_getD, List.getElem?_append_right (by simp [Disk.cnt])]
    simp [Disk.cnt]

theorem wr_tail (x : Int × List (BitVec 8)) : ∀ j, j < 256 → (wrCells x)[1 + j]? = (pageCells x.2)[j]? := by
  intro j _
  rw [wrCells_get, wrL, ← pageL_get, Nat.add_comm]
  rfl
theorem wr_head (x : Int × List (BitVec 8)) : (wrCells x)[0]? = some (.int .i64 x.1) := by rw [wrCells_get]; rfl
theorem wrCells_one (x : Int × List (BitVec 8)) : ∀ v ∈ wrCells x, v.oneCell' = true := by
  intro v hv
  rw [← Array.mem_toList_iff] at hv
  have : (wrCells x).toList = wrL x := by unfold wrCells; rfl
  rw [this, wrL] at hv
  rcases List.mem_cons.1 hv with rfl | hv
  · rfl
  · obtain ⟨b, _, rfl⟩ := List.mem_map.1 hv; rfl
def zeroWr : Array Value := wrCells (0, List.replicate 256 0#8)
theorem zero_write (w : World) : (zeroValue 75).run Try.prog w = .ok (.agg zeroWr) w := by
  unfold zeroWr wrCells
  kernel_rfl
theorem zeroWr_size : zeroWr.size = 257 := wrCells_size _ (by rw [List.length_replicate])
attribute [irreducible] zeroWr
end Suture
