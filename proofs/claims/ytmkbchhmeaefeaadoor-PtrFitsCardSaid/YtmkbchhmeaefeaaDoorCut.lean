/-
  A WALK CUT IN TWO behind the second, third, fourth part of a row of parts (no program).
  Conditions: none beyond each theorem's own.
-/
import Derived.Test.YtmkbchhmeaefeaaDoorPtr2
namespace Suture
open Go Go.RowKit

section
variable {P : Program} {Q : Exit → Act → World → Prop} {a : Act} {w : World} {x1 x2 x3 x4 x5 z : Code} (M : Act → World → Prop)

theorem then_mono {R R' : Act → World → Prop} (h : ∀ a w, R a w → R' a w) : ∀ e a w, Exit.then R Q e a w → Exit.then R' Q e a w := fun e a w hh => by
  cases e <;> first | exact h _ _ hh | exact hh
theorem wp_cut2 (h1 : ∀ K1 : Act → World → Prop, (∀ a w, x2.wp P (Exit.then M Q) a w → K1 a w) → x1.wp P (Exit.then K1 Q) a w) (h2 : ∀ a w, M a w → z.wp P Q a w) :
    (x1.seq (x2.seq z)).wp P Q a w :=
  wp_seq (wp_mono (h1 (fun a w => x2.wp P (Exit.then M Q) a w) (fun _ _ h => h)) (then_mono fun _ _ h => wp_seq (wp_mono h (then_mono h2))))
theorem wp_cut3 (h1 : ∀ K1 K2 : Act → World → Prop, (∀ a w, x3.wp P (Exit.then M Q) a w → K2 a w) → (∀ a w, x2.wp P (Exit.then K2 Q) a w → K1 a w) → x1.wp P (Exit.then K1 Q) a w) (h2 : ∀ a w, M a w → z.wp P Q a w) :
    (x1.seq (x2.seq (x3.seq z))).wp P Q a w :=
  wp_seq (wp_mono (h1 (fun a w => x2.wp P (Exit.then (fun a w => x3.wp P (Exit.then M Q) a w) Q) a w) (fun a w => x3.wp P (Exit.then M Q) a w) (fun _ _ h => h) (fun _ _ h => h))
    (then_mono fun _ _ h => wp_seq (wp_mono h (then_mono fun _ _ h => wp_seq (wp_mono h (then_mono h2))))))
theorem wp_cut4 (h1 : ∀ K1 K2 K3 : Act → World → Prop, (∀ a w, x4.wp P (Exit.then M Q) a w → K3 a w) → (∀ a w, x3.wp P (Exit.then K3 Q) a w → K2 a w) → (∀ a w, x2.wp P (Exit.then K2 Q) a w → K1 a w) → x1.wp P (Exit.then K1 Q) a w) (h2 : ∀ a w, M a w → z.wp P Q a w) :
    (x1.seq (x2.seq (x3.seq (x4.seq z)))).wp P Q a w :=
  wp_seq (wp_mono (h1 (fun a w => x2.wp P (Exit.then (fun a w => x3.wp P (Exit.then (fun a w => x4.wp P (Exit.then M Q) a w) Q) a w) Q) a w) (fun a w => x3.wp P (Exit.then (fun a w => x4.wp P (Exit.then M Q) a w) Q) a w) (fun a w => x4.wp P (Exit.then M Q) a w) (fun _ _ h => h) (fun _ _ h => h) (fun _ _ h => h))
    (then_mono fun _ _ h => wp_seq (wp_mono h (then_mono fun _ _ h => wp_seq (wp_mono h (then_mono fun _ _ h => wp_seq (wp_mono h (then_mono h2))))))))
end
/-- where a walk is cut: the frame (its idle slots named by one function) and what holds of the world -/
def Here {α : Type} (F : α → (Nat → Value) → Array Value) (R : α → World → Prop) (a : Act) (w : World) : Prop := ∃ (x : α) (u : Nat → Value), a = { tmps := F x u, defers := [] } ∧ R x w
theorem here_of {α : Type} {F : α → (Nat → Value) → Array Value} {R : α → World → Prop} {a : Act} {w : World} (x : α) (h : F x (fun n => a.tmps.toList.getD n undef) = a.tmps) (hd : a.defers = []) (hr : R x w) : Here F R a w := by
  refine ⟨x, fun n => a.tmps.toList.getD n undef, ?_, hr⟩
  rw [h, ← hd]
end Suture
