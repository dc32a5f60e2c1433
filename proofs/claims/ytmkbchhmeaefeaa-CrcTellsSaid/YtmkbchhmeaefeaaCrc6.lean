/-
  suturelaw01.CrcSteps: a step loses nothing.
  Conditions: none.
-/
import Derived.Test.YtmkbchhmeaefeaaCrc5
namespace Suture
open Go Go.RowKit Go.Proofs

theorem steps_states (c d : BitVec 64) (a : BitVec 8) : ((step c a == step d a) == (c == d)) = true := by
  by_cases h : c = d
  · subst h; simp
  · have h2 : step c a ≠ step d a := fun e => h (step_inj e)
    rw [beq_eq_false_iff_ne.2 h, beq_eq_false_iff_ne.2 h2]; rfl
theorem steps_bytes (c : BitVec 64) (a b : BitVec 8) : ((step c a == step c b) == (a == b)) = true := by
  by_cases h : a = b
  · subst h; simp
  · have h2 : step c a ≠ step c b := fun e => h (step_inj_byte e)
    rw [beq_eq_false_iff_ne.2 h, beq_eq_false_iff_ne.2 h2]; rfl
theorem tab_step (a : BitVec 8) : (tabCells 256)[a.toNat]? = some (U (step 0#64 a)) := by
  rw [tabCells_get 256 _ a.isLt, if_pos a.isLt]
  unfold tabAt step
  rw [BitVec.ofNat_toNat, BitVec.setWidth_eq, BitVec.zero_xor]
theorem step_nought_any (a : BitVec 8) (W : World) : Calls Try.prog 14 #[.int .u64 0, B a] W fun e w' => e = .returned (U (step 0#64 a)) ∧ W = w' := step_calls 0#64 a W

set_option maxHeartbeats 1000000 in
set_option maxRecDepth 100000 in
theorem crcSteps_calls (c d : BitVec 64) (a b : BitVec 8) (w : World) :
    Calls Try.prog 8 #[U c, U d, B a, B b] w fun e w' => e = .returned (.bool true) ∧ Agrees All w w' := by
  have f1 := steps_states c d a
  have f2 := steps_bytes c a b
  go_enter Try.func8, Try.ntmps8
  go_wp2_with fail
  refine (step_calls _ _ _).mono ?_
  rintro e w1 ⟨rfl, rfl⟩
  go_wp2_with fail
  refine (step_calls _ _ _).mono ?_
  rintro e w1 ⟨rfl, rfl⟩
  go_wp2_with fail
  refine (step_calls _ _ _).mono ?_
  rintro e w1 ⟨rfl, rfl⟩
  go_wp2_with fail
  refine (step_calls _ _ _).mono ?_
  rintro e w1 ⟨rfl, rfl⟩
  go_wp2_with fail
  refine (step_nought_any _ _).mono ?_
  rintro e w1 ⟨rfl, rfl⟩
  go_wp2_with fail
  refine (table_calls _).mono ?_
  rintro e w1 ⟨rfl, hag1⟩
  go_wp2_with (first | (go_at_call 12; refine (wakes01_calls _).mono ?_; rintro e w2 ⟨rfl, hag2⟩) | (refine wpList_val rfl (ex_index1 (T := 66) rfl Try.underlying66 (fun cs i v h => part_u64 cs i v _ h) (by kernel_rfl) (tabCells 256) rfl (a.toNat : Int) rfl (by omega) (by have := a.isLt; omega) _ (tab_step a)) ?_))
  go_ret
  exact ⟨rfl, hag1.trans hag2⟩
end Suture
