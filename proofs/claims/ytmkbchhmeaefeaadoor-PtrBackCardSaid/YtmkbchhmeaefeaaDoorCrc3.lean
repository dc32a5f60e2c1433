/-
  crc.Sum: the sum of the parts, one behind the other.
  Conditions: none beyond the slices' own readings.
-/
import Derived.Test.YtmkbchhmeaefeaaDoorCrc2
namespace Suture
open Go Go.RowKit Go.Proofs
attribute [local go_sem] Oper.semAt_some

theorem bytes_calls (a : Option Addr) (n cap : Nat) (w : World) :
    Calls Tryd.prog 32 #[.slice a n cap] w fun e w' => e = .returned (.func (.func 34) #[] #[.pointer (some ⟨w.heap.size, 0, none⟩)]) ∧ w.alloc (.cells #[.slice a n cap] 66) = w' := by
  go_enter Tryd.func32, Tryd.ntmps32
  go_wp2
  go_ret
  exact ⟨rfl, rfl⟩

theorem take_succ_getD (l : List (BitVec 8)) (k : Nat) (h : k < l.length) : l.take (k + 1) = l.take k ++ [l.getD k 0] := by
  rw [List.take_succ_eq_append_getElem h, List.getD_eq_getElem?_getD, List.getElem?_eq_getElem h]; rfl
theorem sumFrom_take_succ (c : BitVec 64) (l : List (BitVec 8)) (k : Nat) (h : k < l.length) : sumFrom c (l.take (k + 1)) = step (sumFrom c (l.take k)) (l.getD k 0) := by
  rw [take_succ_getD l k h, sumFrom_append]; rfl

set_option maxHeartbeats 1000000 in
theorem sum_calls (a : Option Addr) (n cap : Nat) (parts : List (List (BitVec 8))) (w : World) (hv : PartsAt (fun b => b < w.heap.size) w (.slice a n cap) parts) :
    Calls Tryd.prog 27 #[.slice a n cap] w fun e w' => e = .returned (U (sum parts.flatten)) ∧ Agrees All w w' := by
  refine (callsIn_wide (n := 0)).1 (callsIn_of_wp_marks Tryd.func27 rfl trivial (wpIn_wide.2 ?_) rfl)
  simp only [Tryd.ntmps27, List.size_toArray, List.length_cons, List.length_nil, Nat.reduceAdd, Nat.reduceSub, Array.replicate_succ, Array.replicate_zero, List.push_toArray, List.append_toArray, List.nil_append, List.cons_append]
  go_wp2_with (go_at_call 32; refine (bytes_calls _ _ _ _).mono ?_; rintro e w' ⟨rfl, rfl⟩)
  obtain ⟨w1, hw1⟩ : ∃ w1, w.alloc (.cells #[Value.int .u64 18446744073709551615] 25) = w1 := ⟨_, rfl⟩
  obtain ⟨w2, hw2⟩ : ∃ w2, w1.alloc (.cells #[Value.slice a n cap] 66) = w2 := ⟨_, rfl⟩
  have hs1 : w1.heap.size = w.heap.size + 1 := by rw [← hw1]; simp
  have hs2 : w2.heap.size = w.heap.size + 2 := by rw [← hw2]; simp [hs1]
  have hA : Agrees All w w2 := by rw [← hw2, ← hw1]; exact ((Agrees.refl _ w).alloc _).alloc _
  have hc0 : w2.cell? ⟨w.heap.size, 0, none⟩ = some (U ones) := by rw [← U_ones, ← hw2, ← hw1]; simp [go_sem]
  have hf0 : w2.frozen? ⟨w.heap.size, 0, none⟩ = false := by rw [← hw2, ← hw1]; simp [go_sem]
  have hb0 : w2.cell? ⟨w.heap.size + 1, 0, none⟩ = some (.slice a n cap) := by rw [← hs1, ← hw2]; simp [go_sem]
  rw [hw1, hw2]
  have hbelow : ∀ b, b < w.heap.size → b < w2.heap.size := fun b h => by omega
  have hit := bytes1_iter (fun b => b < w.heap.size ∨ b = w.heap.size + 1) w.heap.size w2 (w.heap.size + 1) a n cap parts hb0 (.inr rfl) (by omega)
    (fun b hb => by omega) ((hv.agrees hA (fun _ _ => trivial)).mono (fun b hb => .inl hb))
  refine wp_rangeFunc_iter rfl (Go.Proofs.enters_of Tryd.func34 (by kernel_rfl) rfl) hit (Agrees.refl _ _) (fun b hb => by omega) (by omega) (fun _ => rfl)
    (fun b => b = w.heap.size) (fun b hb => ⟨by omega, by omega⟩)
    (fun k C W => C = (fun b => b = w.heap.size) ∧ W.cell? ⟨w.heap.size, 0, none⟩ = some (U (sumFrom ones (parts.flatten.take k))) ∧ W.frozen? ⟨w.heap.size, 0, none⟩ = false ∧ Agrees (fun b => b < w.heap.size) w W ∧ w.heap.size < W.heap.size)
    (fun _ _ _ _ => False) ?stabI ?stabX ⟨rfl, hc0, hf0, hA.weak, by omega⟩
    (fun k => { tmps := #[.slice a n cap, undef, .int .u64 0, .pointer (some ⟨w.heap.size, 0, none⟩), B (parts.flatten.getD k 0), .slice a n cap, .func (.func 34) #[] #[.pointer (some ⟨w.heap.size + 1, 0, none⟩)], B (parts.flatten.getD k 0), undef, undef, undef, undef, undef], defers := [] })
    ?assign ?body ?done ?stop
  case stabI =>
    rintro k C W W' ⟨rfl, h1, h2, h3, h4⟩ hag
    exact ⟨rfl, (hag.cell (p := ⟨w.heap.size, 0, none⟩) h4 (.inl rfl)).trans h1, (hag.frozen (p := ⟨w.heap.size, 0, none⟩) h4 (.inl rfl)).trans h2,
      h3.trans' hag (fun b _ hb => .inr hb), Nat.lt_of_lt_of_le h4 hag.size⟩
  case stabX => exact fun _ _ _ _ _ h _ => h
  case assign =>
    intro l k W K hK
    generalize parts.flatten.getD k 0 = x at *
    gi_wp2
    exact hK
  case body =>
    rintro l k C W hk ⟨rfl, h1, h2, h3, h4⟩ hCW hsz
    have hsuc := sumFrom_take_succ ones parts.flatten k hk
    generalize sumFrom ones (parts.flatten.take k) = c at *
    generalize parts.flatten.getD k 0 = x at *
    have HS := Lib.hid hsuc
    clear hsuc
    gi_wp2_with (refine ⟨trivial, rfl, ?_⟩; gi_at_call 33; refine (CallsIn.inRound l (callsIn_wide.2 (step_calls _ _ _))).mono ?_; rintro e w' ⟨rfl, rfl⟩)
    refine ⟨(Agrees.refl _ W).setCell (.inl (fun h => h rfl)) _, _, ⟨rfl, ?_, ?_, h3.setCell (.inl (Nat.lt_irrefl _)) _, ?_⟩, fun b hb => ⟨?_, .inl hb⟩⟩
    · rw [HS.out]; exact World.cell?_setCell_same' _ _ _ (by rw [h1]; rfl)
    · rw [World.frozen?_setCell]; exact h2
    · simpa [World.setCell] using h4
    · have := hCW b hb; simpa [World.setCell] using this
  case done =>
    rintro D C W hD ⟨rfl, h1, h2, h3, h4⟩ hK hCD
    rw [List.take_length] at h1
    generalize hs : sumFrom ones parts.flatten = c at *
    have HS := Lib.hid hs
    clear hs
    go_wp2
    refine ⟨by simp, .inl ⟨_, _, rfl, run_takeDeferred hK, ?_⟩⟩
    refine ⟨_, results_tmp rfl _ _ _, ?_⟩
    refine ⟨?_, ?_⟩
    · show Ending.returned (U (~~~c)) = _
      unfold sum; rw [HS.out]
    · have h5 : Agrees All w W := ⟨h3.os, h3.tape, h3.output, h3.size, fun b hb _ => h3.block b hb hb⟩
      exact h5.putObj (.inr (by omega)) _
  case stop =>
    rintro D k c C W _ _ h
    exact h.elim
end Suture
