/-
  THE WALKS OF crc.reckon AND crc.Step.
  Conditions: none.
-/
import Derived.Test.YtmkbchhmeaefeaaDoorProg
import Derived.Test.YtmkbchhmeaefeaaDoorBase
namespace Suture
open Go Go.RowKit Go.Proofs

set_option maxHeartbeats 400000 in
theorem reckon_calls (b : BitVec 8) (w : World) :
    Calls Tryd.prog 35 #[B b] w fun e w' => e = .returned (U (rounds 8 (b.setWidth 64))) ∧ w = w' := by
  go_enter Tryd.func35, Tryd.ntmps35
  go_wp2
  go_loop [3, 6] (fun c i => ∃ k : Nat, k ≤ 8 ∧ i = .int .i64 k ∧ c = U (rounds k (b.setWidth 64))) (fun _ i => 8 - (intOf i).toNat)
  case atStart => exact ⟨0, by omega, rfl, rfl⟩
  case round =>
    obtain ⟨k, hk, rfl, rfl⟩ := hrel
    by_cases hlt : k < 8
    · go_wp2
      go_round
      case rel => exact ⟨k + 1, by omega, by go_num, by rw [rounds_succ, bs_mul]⟩
      case measure => simp [intOf]; omega
    · obtain rfl : k = 8 := by omega
      go_wp2
      go_ret
      exact ⟨rfl, rfl⟩

set_option maxHeartbeats 400000 in
theorem step_calls (c : BitVec 64) (b : BitVec 8) (w : World) :
    Calls Tryd.prog 33 #[U c, B b] w fun e w' => e = .returned (U (step c b)) ∧ w = w' := by
  go_enter Tryd.func33, Tryd.ntmps33
  go_wp2_with (go_at_call 35; refine (reckon_calls _ _).mono ?_; rintro e w' ⟨rfl, rfl⟩)
  go_ret
  exact ⟨by rw [← step_by_table]; rfl, rfl⟩
end Suture
