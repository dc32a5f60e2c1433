/-
  NUMBERS TAKEN: slices.Backward.
  Conditions: none beyond the slices' own readings.
-/
import Derived.Test.YtmkbchhmeaefeaaDoorPack2
namespace Suture
open Go Go.RowKit Go.Proofs
attribute [local go_sem] Oper.semAt_some

theorem backward_calls (a : Option Addr) (n cap : Nat) (w : World) :
    Calls Tryd.prog 26 #[.slice a n cap] w fun e w' => e = .returned (.func (.func 31) #[] #[.pointer (some ⟨w.heap.size, 0, none⟩)]) ∧ w.alloc (.cells #[.slice a n cap] 28) = w' := by
  go_enter Tryd.func26, Tryd.ntmps26
  go_wp2
  go_ret
  exact ⟨rfl, rfl⟩

set_option maxHeartbeats 1000000 in
theorem backward1_iter (R : Nat → Prop) (n₀ : Nat) (w0 : World) (Bx : Nat) (a : Option Addr) (n cap : Nat) (bs : List (BitVec 8)) (hbox : w0.heap[Bx]? = some (.cells #[.slice a n cap] 28 (0, 0))) (hRB : R Bx)
    (hv : BytesAt R w0 (.slice a n cap) bs) (hR : ∀ b, R b → b < w0.heap.size) :
    IterAt Tryd.prog 31 #[.pointer (some ⟨Bx, 0, none⟩)] (fun k => #[.int .i64 ((n - 1 - k : Nat) : Int), B (bs.getD (n - 1 - k) 0)]) n n₀ R w0 := by
  intro l J Jx C W hag hC hJ hJx hY h0
  refine (callsIn_wide (n := 0)).1 ?_
  have hB := (Array.getElem?_eq_some_iff.1 hbox).1
  have hbW := (hag.block Bx hB hRB).trans hbox
  have hbW0 : W.cell? ⟨Bx, 0, none⟩ = some (.slice a n cap) := cell_of_row W _ 0 _ _ _ hbW
  obtain ⟨hlen, hbd, hat⟩ := hv.at
  have HBX := Lib.hid hbox
  have HAT := Lib.hid hat
  clear hv hbox hbW hat hlen
  have hFn : ∀ f, Fence.wide.fn f := fun _ => trivial
  have hro : Fence.wide.round = none := rfl
  have hdp : Fence.wide.depth = none := rfl
  generalize Fence.wide = F at *
  refine callsIn_of_wp Tryd.func31 rfl (hFn _) ?_ hro
  simp only [Tryd.ntmps31, List.size_toArray, List.length_cons, List.length_nil, Nat.reduceAdd, Nat.reduceSub, Array.replicate_succ, Array.replicate_zero, List.push_toArray, List.append_toArray, List.nil_append, List.cons_append]
  have hw1 : IntKind.i64.wrap ((n : Int) - 1) = (n : Int) - 1 := by rw [IntKind.wrap_i64]; omega
  gi_wp2
  gi_loopw [3] (fun v wr => ∃ (C : Nat → Prop) (j : Nat), j ≤ n ∧ v = .int .i64 ((j : Int) - 1) ∧ J (n - j) C wr ∧ RowKit.Hid (Agrees R w0 wr) ∧ RowKit.Hid (∀ b, C b → ¬ R b ∧ b < wr.heap.size)) (fun v _ => (intOf v + 1).toNat)
  case atStart => exact ⟨C, n, by omega, by simp, by simpa using h0, hag, hC⟩
  case round =>
    obtain ⟨C, j, hk, rfl, hj, HA, HC⟩ := hrel
    cases j with
    | succ q =>
      have hqe : (((q + 1 : Nat) : Int)) - 1 = (q : Int) := by omega
      rw [hqe]
      obtain ⟨b, off, rfl, hRb, hbl, hcell⟩ := HAT.out q (by omega)
      have c1 : wr.cell? ⟨Bx, 0, none⟩ = some (.slice (some ⟨b, off, none⟩) n cap) := cell_of_row wr _ 0 _ _ _ ((HA.out.block Bx hB hRB).trans HBX.out)
      have c2 : wr.cell? ⟨b, off + q, none⟩ = some (B (bs.getD q 0)) := (HA.out.cell (p := ⟨b, off + q, none⟩) hbl hRb).trans hcell
      have hy0 := hY (n - (q + 1)) C wr (by omega) hj (fun b hb => (HC.out b hb).2)
      rw [show n - 1 - (n - (q + 1)) = q by omega] at hy0
      obtain ⟨fn, tmps, assign, body, hy, hR'⟩ := hy0
      have hwk : IntKind.i64.wrap ((q : Int) - 1) = (q : Int) - 1 := by rw [IntKind.wrap_i64]; omega
      clear hcell hqe
      generalize bs.getD q 0 = x at *
      gi_wp2
      refine hR'.mono ?_
      rintro e W3 (⟨rfl, hag3, C3, hj3, hC3⟩ | ⟨rfl, hag3, C3, hj3, hC3⟩)
      · have HA3 := Lib.hid (HA.out.trans' hag3 (fun b hb hr hc => (HC.out b hc).1 hr))
        have HC4 : RowKit.Hid (∀ b, C3 b → ¬ R b ∧ b < W3.heap.size) := fun b hb => ⟨fun hr => ((hC3 b hb).2.elim (fun h => (HC.out b h).1 hr) (fun h => by have := hR b hr; have := HA.out.size; omega)), (hC3 b hb).1⟩
        rw [show n - (q + 1) + 1 = n - q by omega] at hj3
        clear hag3 hC3
        gi_wp2
        exact ⟨⟨C3, q, by omega, rfl, hj3, HA3, HC4⟩, by simp [intOf]⟩
      · gi_wp2
        refine bodyPost_ret (results_none rfl _ _ _) rfl ?_
        exact ⟨⟨_, rfl⟩, C3, .inr ⟨_, by omega, hj3⟩⟩
    | zero =>
      gi_wp2
      go_end0
      exact ⟨⟨_, rfl⟩, C, .inl (by simpa using hj)⟩
end Suture
