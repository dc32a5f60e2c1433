/-
  crc.Table: what a step makes of each byte.
  Conditions: none.
-/
import Derived.Test.YtmkbchhmeaefeaaCrc3
import Derived.Test.YtmkbchhmeaefeaaArr
namespace Suture
open Go Go.RowKit Go.Proofs

def tabAt (i : Nat) : BitVec 64 := rounds 8 ((BitVec.ofNat 8 i).setWidth 64)
/-- the table's cells when k of them have been reckoned -/
def tabCells (k : Nat) : Array Value := ((List.range 256).map fun i => if i < k then U (tabAt i) else .int .u64 0).toArray

theorem tabCells_size (k : Nat) : (tabCells k).size = 256 := by simp [tabCells]
theorem tabCells_get (k i : Nat) (hi : i < 256) : (tabCells k)[i]? = some (if i < k then U (tabAt i) else .int .u64 0) := by
  unfold tabCells
  rw [List.getElem?_toArray, List.getElem?_map, List.getElem?_range hi]
  rfl
theorem tabCells_succ (k : Nat) (hk : k < 256) : (tabCells k).setIfInBounds k (U (tabAt k)) = tabCells (k + 1) := by
  apply Array.ext_getElem?
  intro i
  rw [Array.getElem?_setIfInBounds]
  by_cases h : i < 256
  · by_cases hik : k = i
    · subst hik; rw [if_pos rfl, tabCells_size, if_pos hk, tabCells_get _ _ h, if_pos (by omega)]
    · rw [if_neg hik, tabCells_get _ _ h, tabCells_get _ _ h]
      by_cases h2 : i < k
      · rw [if_pos h2, if_pos (by omega)]
      · rw [if_neg h2, if_neg (by omega)]
  · have e : (tabCells (k + 1))[i]? = none := Array.getElem?_eq_none (by rw [tabCells_size]; omega)
    have e2 : (tabCells k)[i]? = none := Array.getElem?_eq_none (by rw [tabCells_size]; omega)
    rw [e, if_neg (by omega), e2]
theorem tabCells_one (k : Nat) : ∀ v ∈ tabCells k, v.oneCell' = true := by
  intro v hv
  simp only [tabCells, List.mem_toArray, List.mem_map] at hv
  obtain ⟨i, _, rfl⟩ := hv
  split <;> rfl
theorem tabCells_zero : tabCells 0 = Array.replicate 256 (Value.int .u64 0) := by
  apply Array.ext_getElem?
  intro i
  by_cases h : i < 256
  · rw [tabCells_get _ _ h]; simp [h]
  · rw [Array.getElem?_eq_none (by rw [tabCells_size]; omega), Array.getElem?_eq_none (by simp; omega)]

theorem byte_of (i : Nat) (h : i < 256) : Value.int .u8 (i : Int) = B (BitVec.ofNat 8 i) := by
  unfold B
  rw [BitVec.toNat_ofNat, Nat.mod_eq_of_lt h]
theorem reckon_tab (i : Nat) (h : i < 256) (w : World) : Calls Try.prog 36 #[.int .u8 (i : Int)] w fun e w' => e = .returned (U (tabAt i)) ∧ w = w' := by
  rw [byte_of i h]; exact reckon_calls _ w
attribute [irreducible] tabCells tabAt

theorem isAgg_tab : IsAgg Try.prog 66 256 := ⟨⟨_, Try.underlying66, rfl⟩, by kernel_rfl⟩
theorem zero_tab (w : World) : (zeroValue 66).run Try.prog w = .ok (.agg (tabCells 0)) w := by
  rw [tabCells_zero]
  kernel_rfl
set_option maxHeartbeats 1000000 in
set_option maxRecDepth 100000 in
theorem table_calls (w : World) : Calls Try.prog 27 #[] w fun e w' => e = .returned (.agg (tabCells 256)) ∧ Agrees All w w' := by
  go_enter Try.func27, Try.ntmps27
  go_wp2_with (refine wpList_val rfl (ex_alloc rfl _ zero_tab) ?_)
  obtain ⟨w1, hw1⟩ : ∃ w1, w.alloc (.cells (tabCells 0) 66) = w1 := ⟨_, rfl⟩
  have hb0 : w1.heap[w.heap.size]? = some (.cells (tabCells 0) 66 (0, 0)) := by rw [← hw1]; exact World.alloc_heap_new w _
  have hA0 : Agrees All w w1 := by rw [← hw1]; exact (Agrees.refl _ w).alloc _
  go_wp2
  rw [hw1]
  go_loopw [2] (fun v wr => ∃ k : Nat, k ≤ 256 ∧ v = .int .i64 k ∧ wr.heap[w.heap.size]? = some (.cells (tabCells k) 66 (0, 0)) ∧ Agrees All w wr) (fun v _ => 256 - (intOf v).toNat)
  case atStart => exact ⟨0, by omega, rfl, hb0, hA0⟩
  case round =>
    obtain ⟨k, hk, rfl, hb, hA⟩ := hrel
    by_cases hlt : k < 256
    · have hcell : wr.cell? ⟨w.heap.size, k, none⟩ = some (.int .u64 0) := by
        rw [cell_of_row wr _ _ _ _ _ hb, tabCells_get k k hlt, if_neg (by omega)]
      have hfr : wr.frozen? ⟨w.heap.size, k, none⟩ = false := frozen_of_row wr _ _ _ _ hb
      have HB := Lib.hid hb
      clear hb
      go_wp2_with (go_at_call 36; refine (reckon_tab k hlt _).mono ?_; rintro e w' ⟨rfl, rfl⟩)
      go_roundw
      case rel =>
        refine ⟨k + 1, by omega, by go_num, ?_, hA.setCell (.inr (Nat.le_refl _)) _⟩
        rw [← tabCells_succ k hlt]
        exact heap_setCell_same _ _ _ _ _ _ HB.out
      case measure => simp [intOf]; omega
    · have hbk : wr.heap[w.heap.size]? = some (.cells (tabCells 256) 66 (0, 0)) := by rw [hb, show k = 256 by omega]
      have HB := Lib.hid hbk
      clear hb hbk
      go_wp2_with (first | (refine wpList_val rfl (ex_load (ty := 66) rfl isAgg_tab w.heap.size 0 rfl (tabCells 256) (tabCells_size _) (fun j _ => by rw [Nat.zero_add]; exact cell_of_row wr _ _ _ _ _ HB.out)) ?_) | (refine wpList_unit rfl (ex_store (ty := 66) rfl isAgg_tab.2 w.heap.size 0 rfl (tabCells 256) (tabCells 256) rfl (tabCells_size _) HB.out (by rw [tabCells_size]; omega) (tabCells_one _)) ?_))
      have hset : wr.setRow w.heap.size ((tabCells 256).toList.take 0 ++ (tabCells 256).toList ++ (tabCells 256).toList.drop (0 + 256)).toArray = wr := by
        have := setRow_all wr w.heap.size (tabCells 256) (tabCells 256) rfl
        rw [tabCells_size] at this
        rw [this]; exact setRow_self wr _ _ _ _ HB.out
      rw [hset]
      exact bodyPost_ret (results_cell_row rfl _ _ w.heap.size _ (tabCells 256) _ _ rfl HB.out Try.underlying66 rfl (by rw [tabCells_size]; exact isAgg_tab.2)) rfl ⟨rfl, hA⟩
end Suture
