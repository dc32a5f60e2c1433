/-
  The document's own answers for sums (sutureref01), and suturelaw01.great.
  Conditions: none beyond the slices' own readings.
-/
import Derived.Test.YtmkbchhmeaefeaaCrc9
import Derived.Test.YtmkbchhmeaefeaaEq
namespace Suture
open Go Go.RowKit Go.Proofs

theorem binOp_eql_U1 (t : TypeId) (a : BitVec 64) : binOp .eql t (U a) (.int .u64 1) = pure (.bool (a == 1#64)) := binOp_eql_U t a 1#64
theorem binOp_xor_poly (t : TypeId) (a : BitVec 64) : binOp .xor t (U a) (.int .u64 14514072000185962306) = pure (U (a ^^^ poly)) := by
  rw [U_poly]; exact binOp_xor_U t a poly
theorem low_one (c : BitVec 64) : (c &&& 1#64 == 1#64) = c.getLsbD 0 := by
  have h : c &&& 1#64 = if c.getLsbD 0 then 1#64 else 0#64 := by
    apply BitVec.eq_of_getLsbD_eq
    intro i hi
    rw [BitVec.getLsbD_and]
    cases i with
    | zero => cases h : c.getLsbD 0 <;> simp
    | succ i =>
      have e : (1#64).getLsbD (i + 1) = false := by
        simp [BitVec.getLsbD, Nat.testBit, Nat.shiftRight_eq_div_pow]
        have : 1 / 2 ^ (i + 1) = 0 := Nat.div_eq_of_lt (Nat.one_lt_two_pow (by omega))
        omega
      rw [e]; cases c.getLsbD 0 <;> simp [e]
  rw [h]
  cases c.getLsbD 0 <;> rfl
theorem bs_low (c : BitVec 64) : (if (c &&& 1#64 == 1#64) = true then (c >>> 1) ^^^ poly else c >>> 1) = bs c := by
  rw [low_one]
  unfold bs
  cases c.getLsbD 0 <;> simp

attribute [local go_sem] binOp_eql_U1 binOp_xor_poly in
set_option maxHeartbeats 400000 in
theorem refStep_calls (c : BitVec 64) (b : BitVec 8) (w : World) :
    Calls Try.prog 29 #[U c, B b] w fun e w' => e = .returned (U (step c b)) ∧ w = w' := by
  go_enter Try.func29, Try.ntmps29
  go_wp2
  generalize hc0 : c ^^^ b.setWidth 64 = c0
  have HC0 := Lib.hid hc0
  clear hc0
  go_loop [0, 5] (fun c i => ∃ k : Nat, k ≤ 8 ∧ i = .int .i64 k ∧ c = U (rounds k c0)) (fun _ i => 8 - (intOf i).toNat)
  case atStart => exact ⟨0, by omega, rfl, rfl⟩
  case round =>
    obtain ⟨k, hk, rfl, rfl⟩ := hrel
    by_cases hlt : k < 8
    · have hb := bs_low (rounds k c0)
      have HB := Lib.hid hb
      clear hb
      generalize hd : rounds k c0 = d at *
      have HD := Lib.hid hd
      clear hd
      go_wp2
      all_goals
        refine ⟨⟨k + 1, by omega, by simp, ?_⟩, by simp [intOf]; omega⟩
        rw [rounds_succ, HD.out, ← HB.out]
        simp_all
    · obtain rfl : k = 8 := by omega
      go_wp2
      go_ret
      exact ⟨by unfold step; rw [HC0.out]; rfl, rfl⟩

theorem refStep_tab (i : Nat) (h : i < 256) (w : World) : Calls Try.prog 29 #[.int .u64 0, .int .u8 (i : Int)] w fun e w' => e = .returned (U (tabAt i)) ∧ w = w' := by
  rw [byte_of i h]
  refine (refStep_calls 0#64 _ w).mono ?_
  rintro e w' ⟨rfl, rfl⟩
  refine ⟨?_, rfl⟩
  unfold step tabAt
  rw [BitVec.zero_xor]

set_option maxHeartbeats 1000000 in
set_option maxRecDepth 100000 in
theorem refTable_calls (w : World) : Calls Try.prog 30 #[] w fun e w' => e = .returned (.agg (tabCells 256)) ∧ Agrees All w w' := by
  go_enter Try.func30, Try.ntmps30
  go_wp2_with (refine wpList_val rfl (ex_alloc rfl _ zero_tab) ?_)
  obtain ⟨w1, hw1⟩ : ∃ w1, (w.alloc (.cells (tabCells 0) 66)).alloc (.cells (tabCells 0) 66) = w1 := ⟨_, rfl⟩
  have hA0 : Agrees All w w1 := by rw [← hw1]; exact ((Agrees.refl _ w).alloc _).alloc _
  have hr0 : w1.heap[w.heap.size]? = some (.cells (tabCells 0) 66 (0, 0)) := by
    rw [← hw1, heap_alloc_old _ _ (by simp)]; exact World.alloc_heap_new w _
  have hb0 : w1.heap[w.heap.size + 1]? = some (.cells (tabCells 0) 66 (0, 0)) := by
    rw [← hw1]; have := World.alloc_heap_new (w.alloc (.cells (tabCells 0) 66)) (.cells (tabCells 0) 66); rwa [World.size_alloc] at this
  rw [hw1]
  have HR0 := Lib.hid hr0
  have HB0 := Lib.hid hb0
  clear hr0 hb0 hw1
  go_loopw [2] (fun v wr => ∃ k : Nat, k ≤ 256 ∧ v = .int .i64 k ∧ RowKit.Hid (wr.heap[w.heap.size]? = some (.cells (tabCells 0) 66 (0, 0)) ∧ wr.heap[w.heap.size + 1]? = some (.cells (tabCells k) 66 (0, 0)) ∧ Agrees All w wr)) (fun v _ => 256 - (intOf v).toNat)
  case atStart => exact ⟨0, by omega, rfl, HR0.out, HB0.out, hA0⟩
  case round =>
    obtain ⟨k, hk, rfl, HW⟩ := hrel
    by_cases hlt : k < 256
    · have hcell : wr.cell? ⟨w.heap.size + 1, k, none⟩ = some (.int .u64 0) := by
        rw [cell_of_row wr _ _ _ _ _ HW.out.2.1, tabCells_get k k hlt, if_neg (by omega)]
      have hfr : wr.frozen? ⟨w.heap.size + 1, k, none⟩ = false := frozen_of_row wr _ _ _ _ HW.out.2.1
      have hby : IntKind.u8.wrap (k : Int) = k := wrap_u8_nat k hlt
      go_wp2_with (go_at_call 29; refine (refStep_tab k hlt _).mono ?_; rintro e w' ⟨rfl, rfl⟩)
      go_roundw
      case rel =>
        refine ⟨k + 1, by omega, by go_num, ?_, ?_, HW.out.2.2.setCell (.inr (by show w.heap.size ≤ w.heap.size + 1; omega)) _⟩
        · rw [heap_setCell_other _ _ _ _ (by show w.heap.size ≠ w.heap.size + 1; omega)]; exact HW.out.1
        · rw [← tabCells_succ k hlt]
          exact heap_setCell_same _ _ _ _ _ _ HW.out.2.1
      case measure => simp [intOf]; omega
    · obtain rfl : k = 256 := by omega
      go_wp2_with (first | (refine wpList_val rfl (ex_load (ty := 66) rfl isAgg_tab (w.heap.size + 1) 0 rfl (tabCells 256) (tabCells_size _) (fun j _ => by rw [Nat.zero_add]; exact cell_of_row wr _ _ _ _ _ HW.out.2.1)) ?_) | (refine wpList_unit rfl (ex_store (ty := 66) rfl isAgg_tab.2 w.heap.size 0 rfl (tabCells 256) (tabCells 0) rfl (tabCells_size _) HW.out.1 (by rw [tabCells_size]; omega) (tabCells_one _)) ?_))
      have hset : wr.setRow w.heap.size ((tabCells 0).toList.take 0 ++ (tabCells 256).toList ++ (tabCells 0).toList.drop (0 + 256)).toArray = wr.setRow w.heap.size (tabCells 256) := by
        have := setRow_all wr w.heap.size (tabCells 256) (tabCells 0) (by rw [tabCells_size, tabCells_size])
        rw [tabCells_size] at this
        exact this
      rw [hset]
      exact bodyPost_ret (results_cell_row rfl _ _ w.heap.size _ (tabCells 256) _ _ rfl (setRow_heap wr _ _ _ _ _ HW.out.1) Try.underlying66 rfl (by rw [tabCells_size]; exact isAgg_tab.2)) rfl ⟨rfl, HW.out.2.2.setRow (.inr (Nat.le_refl _)) _⟩

theorem flat_step (parts : List (List (BitVec 8))) (i k : Nat) (hk : k < (parts.getD i []).length) (c : BitVec 64) :
    sumFrom (sumFrom c (parts.take i).flatten) ((parts.getD i []).take (k + 1)) = step (sumFrom (sumFrom c (parts.take i).flatten) ((parts.getD i []).take k)) ((parts.getD i []).getD k 0) := sumFrom_take_succ _ _ _ hk
theorem flat_next (parts : List (List (BitVec 8))) (i : Nat) (hi : i < parts.length) (c : BitVec 64) : sumFrom c (parts.take (i + 1)).flatten = sumFrom (sumFrom c (parts.take i).flatten) (parts.getD i []) := by
  rw [List.take_succ_eq_append_getElem hi, List.flatten_append, sumFrom_append, List.getD_eq_getElem?_getD, List.getElem?_eq_getElem hi]
  simp

set_option maxHeartbeats 1000000 in
set_option maxRecDepth 100000 in
theorem refSum_calls (a : Option Addr) (n cap : Nat) (parts : List (List (BitVec 8))) (w : World) (hv : PartsAt (fun b => b < w.heap.size) w (.slice a n cap) parts) :
    Calls Try.prog 31 #[.slice a n cap] w fun e w' => e = .returned (U (sum parts.flatten)) ∧ w = w' := by
  obtain ⟨hlen, hbd, hat⟩ := hv.at
  have HL := Lib.hid hlen
  clear hlen hv
  go_enter Try.func31, Try.ntmps31
  go_wp2
  rw [U_ones]
  go_loop [3, 4] (fun c v => ∃ i : Nat, i ≤ n ∧ v = .int .i64 i ∧ c = U (sumFrom ones (parts.take i).flatten)) (fun _ v => n - (intOf v).toNat)
  case atStart => exact ⟨0, by omega, rfl, rfl⟩
  case round =>
    obtain ⟨i, hi, rfl, rfl⟩ := hrel
    by_cases hlt : i < n
    · obtain ⟨b, off, a', n', cap', rfl, _, hbl, hc, hby⟩ := hat i hlt
      obtain ⟨hl', hb', hat'⟩ := hby.at
      have HS := Lib.hid (fun k hk => flat_step parts i k hk ones)
      have HN := Lib.hid (flat_next parts i (by rw [HL.out]; exact hlt) ones)
      generalize sumFrom ones (parts.take i).flatten = c0 at *
      generalize parts.getD i [] = q at *
      have HQ := Lib.hid hl'
      clear hl'
      go_wp2
      go_loop [3, 5] (fun c v => ∃ k : Nat, k ≤ n' ∧ v = .int .i64 k ∧ c = U (sumFrom c0 (q.take k))) (fun _ v => n' - (intOf v).toNat)
      case atStart => exact ⟨0, by omega, rfl, rfl⟩
      case round =>
        obtain ⟨k, hk, rfl, rfl⟩ := hrel
        by_cases hkl : k < n'
        · obtain ⟨b2, off2, rfl, _, _, hc2⟩ := hat' k hkl
          have HK := Lib.hid (HS.out k (by rw [HQ.out]; exact hkl))
          generalize q.getD k 0 = x at *
          generalize sumFrom c0 (q.take k) = d at *
          go_wp2_with (go_at_call 29; refine (refStep_calls _ _ _).mono ?_; rintro e w' ⟨rfl, rfl⟩)
          go_round
          case rel => exact ⟨k + 1, by omega, by go_num, by rw [HK.out]⟩
          case measure => simp [intOf]; omega
        · obtain rfl : k = n' := by omega
          go_wp2
          go_round
          case rel => exact ⟨i + 1, by omega, by go_num, by rw [HN.out, List.take_of_length_le (by rw [HQ.out]; omega)]⟩
          case measure => simp [intOf]; omega
    · obtain rfl : i = n := by omega
      go_wp2
      go_ret
      refine ⟨?_, rfl⟩
      rw [List.take_of_length_le (by rw [HL.out]; omega)]
      rfl

set_option maxHeartbeats 1000000 in
theorem great_calls (a : Option Addr) (n cap : Nat) (parts : List (List (BitVec 8))) (w : World) (hv : PartsAt (fun b => b < w.heap.size) w (.slice a n cap) parts) :
    Calls Try.prog 28 #[.slice a n cap] w fun e w' => (∃ g, e = .returned (.bool g)) ∧ w = w' := by
  obtain ⟨hlen, hbd, hat⟩ := hv.at
  have HL := Lib.hid hlen
  clear hlen hv
  go_enter Try.func28, Try.ntmps28
  go_wp2
  go_loop [3, 4] (fun c v => ∃ (i : Nat) (m : Int), i ≤ 41 ∧ i ≤ n ∧ v = .int .i64 i ∧ c = .int .i64 m) (fun _ v => n - (intOf v).toNat)
  case atStart => exact ⟨0, 0, by omega, by omega, rfl, rfl⟩
  case round =>
    obtain ⟨i, m, hi, hin, rfl, rfl⟩ := hrel
    by_cases hlt : i < n ∧ i ≤ 40
    · obtain ⟨h1, h2⟩ := hlt
      obtain ⟨b, off, a', n', cap', rfl, _, hbl, hc, hby⟩ := hat i h1
      clear hby
      go_wp2
      all_goals exact ⟨⟨i + 1, _, by omega, by omega, by simp, rfl⟩, by simp [intOf]; omega⟩
    · go_wp2
      all_goals
        go_ret
        first | exact ⟨.inl rfl, rfl⟩ | exact ⟨.inr rfl, rfl⟩ | (refine ⟨?_, rfl⟩; simp; omega)

/-- a page's value: 256 bytes -/
def pageCells (p : List (BitVec 8)) : Array Value := (p.map B).toArray
theorem pageCells_size (p : List (BitVec 8)) : (pageCells p).size = p.length := by simp [pageCells]
theorem pageCells_get (p : List (BitVec 8)) (i : Nat) (h : i < p.length) : (pageCells p)[i]? = some (B (p.getD i 0)) := by
  unfold pageCells
  rw [List.getElem?_toArray, List.getElem?_map, List.getD_eq_getElem?_getD, List.getElem?_eq_getElem h]; rfl
theorem pageCells_one (p : List (BitVec 8)) : ∀ v ∈ pageCells p, v.oneCell' = true := by
  intro v hv
  simp only [pageCells, List.mem_toArray, List.mem_map] at hv
  obtain ⟨i, _, rfl⟩ := hv
  rfl
theorem pageCells_def (p : List (BitVec 8)) : pageCells p = (p.map B).toArray := rfl
attribute [irreducible] pageCells
theorem isAgg_page : IsAgg Try.prog 32 256 := ⟨⟨_, Try.underlying32, rfl⟩, by kernel_rfl⟩

/-- a page in a block, as a slice of all its bytes -/
theorem page_bytes (W : World) (b : Nat) (p : List (BitVec 8)) (t : TypeId) (h : W.heap[b]? = some (.cells (pageCells p) t (0, 0))) (hl : p.length = 256) : BytesAt All W (.slice (some ⟨b, 0, none⟩) 256 256) p := by
  refine ⟨_, 256, 256, rfl, by simp [hl], by omega, fun i x hx => ⟨b, 0, rfl, trivial, (Array.getElem?_eq_some_iff.1 h).1, ?_⟩⟩
  rw [Nat.zero_add, cell_of_row W _ _ _ _ _ h]
  have hi : i < p.length := by have := (List.getElem?_eq_some_iff.1 hx).1; simpa using this
  rw [pageCells_get p i hi]
  rw [List.getElem?_map, List.getElem?_eq_getElem hi] at hx
  rw [List.getD_eq_getElem?_getD, List.getElem?_eq_getElem hi]
  exact hx

set_option maxHeartbeats 1000000 in
theorem crcPage_calls (p : List (BitVec 8)) (hl : p.length = 256) (w : World) : Calls Try.prog 32 #[.agg (pageCells p)] w fun e w' => e = .returned (U (sum p)) ∧ Agrees All w w' := by
  go_enter Try.func32, Try.ntmps32
  have hs := sum_one (w.alloc (.cells (pageCells p) 32)) (some ⟨w.heap.size, 0, none⟩) 256 256 p 22 (page_bytes _ _ p _ (World.alloc_heap_new w _) hl)
  rw [World.size_alloc] at hs
  have HS := Lib.hid hs
  clear hs
  go_wp2_with fail
  refine HS.out.mono ?_
  rintro e w' ⟨rfl, hag⟩
  go_wp2_with fail
  go_ret
  exact ⟨rfl, ((Agrees.refl All w).alloc _).trans hag⟩

theorem refSum_one (w : World) (a : Option Addr) (n cap : Nat) (bs : List (BitVec 8)) (t : TypeId) (hv : BytesAt All w (.slice a n cap) bs) :
    Calls Try.prog 31 #[.slice (some ⟨w.heap.size, 0, none⟩) 1 1] (w.alloc (.cells #[.slice a n cap] t)) fun e w' => e = .returned (U (sum bs)) ∧ Agrees All w w' := by
  have hA : Agrees All w (w.alloc (.cells #[.slice a n cap] t)) := (Agrees.refl _ w).alloc _
  refine (refSum_calls _ _ _ [bs] _ (parts_one _ _ w.heap.size n cap a bs (by simp) (by simp) (by rw [cell_of_row _ _ _ _ _ _ (World.alloc_heap_new w _)]; rfl) (SliceAt.bound (hv.agrees hA fun _ h => h)))).mono ?_
  rintro e w' ⟨rfl, rfl⟩
  exact ⟨by simp, hA⟩
set_option maxHeartbeats 1000000 in
theorem refPage_calls (p : List (BitVec 8)) (hl : p.length = 256) (w : World) : Calls Try.prog 33 #[.agg (pageCells p)] w fun e w' => e = .returned (U (sum p)) ∧ Agrees All w w' := by
  go_enter Try.func33, Try.ntmps33
  have hs := refSum_one (w.alloc (.cells (pageCells p) 32)) (some ⟨w.heap.size, 0, none⟩) 256 256 p 22 (page_bytes _ _ p _ (World.alloc_heap_new w _) hl)
  rw [World.size_alloc] at hs
  have HS := Lib.hid hs
  clear hs
  go_wp2_with fail
  refine HS.out.mono ?_
  rintro e w' ⟨rfl, hag⟩
  go_wp2_with fail
  go_ret
  exact ⟨rfl, ((Agrees.refl All w).alloc _).trans hag⟩
end Suture
