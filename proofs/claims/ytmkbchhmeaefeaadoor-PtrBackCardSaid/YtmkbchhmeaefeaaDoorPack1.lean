/-
  NUMBERS PUT: pack.wide, pack.bytes.
  Conditions: none beyond each theorem's own.
-/
import Derived.Test.YtmkbchhmeaefeaaDoorPtr4
namespace Suture
open Go Go.RowKit Go.Proofs
attribute [local go_sem] Oper.semAt_some

theorem wide_calls (width : Int) (m : Nat) (hm : (m : Int) = max (min width 8) 1) (w : World) : Calls Tryd.prog 25 #[.int .i64 width] w fun e w' => e = .returned (.int .i64 m) ∧ w = w' := by
  rw [hm]
  go_enter Tryd.func25, Tryd.ntmps25
  go_wp2
  all_goals
    go_ret
    refine ⟨?_, rfl⟩
    simp
    omega

theorem packBytes_calls (n : BitVec 64) (width : Int) (w : World) :
    Calls Tryd.prog 24 #[U n, .int .i64 width] w fun e w' => e = .returned (.func (.func 30) #[] #[.pointer (some ⟨w.heap.size + 1, 0, none⟩), .pointer (some ⟨w.heap.size, 0, none⟩)]) ∧
      (w.alloc (.cells #[U n] 25)).alloc (.cells #[.int .i64 width] 3) = w' := by
  go_enter Tryd.func24, Tryd.ntmps24
  go_wp2
  go_ret
  exact ⟨rfl, rfl⟩

/-- the k-th byte of a number, the lowest first -/
def byteN (n : BitVec 64) (k : Nat) : BitVec 8 := (n >>> (8 * k)).setWidth 8

set_option maxHeartbeats 1000000 in
theorem packBytes1_iter (R : Nat → Prop) (n₀ : Nat) (w0 : World) (nb wb : Nat) (n : BitVec 64) (m : Nat) (width : Int) (hm : (m : Int) = max (min width 8) 1) (hn : w0.heap[nb]? = some (.cells #[U n] 25 (0, 0)))
    (hw : w0.heap[wb]? = some (.cells #[.int .i64 width] 3 (0, 0))) (hRn : R nb) (hRw : R wb) (hn0 : n₀ ≤ nb) :
    IterAt Tryd.prog 30 #[.pointer (some ⟨wb, 0, none⟩), .pointer (some ⟨nb, 0, none⟩)] (fun k => #[B (byteN n k)]) m n₀ R w0 := by
  intro l J Jx C W hag hC hJ hJx hY h0
  refine (callsIn_wide (n := 0)).1 ?_
  have hnW := (hag.block nb (Array.getElem?_eq_some_iff.1 hn).1 hRn).trans hn
  have hwW := (hag.block wb (Array.getElem?_eq_some_iff.1 hw).1 hRw).trans hw
  have c0 : W.cell? ⟨wb, 0, none⟩ = some (.int .i64 width) := cell_of_row W _ 0 _ _ _ hwW
  have hFn : ∀ f, Fence.wide.fn f := fun _ => trivial
  have hro : Fence.wide.round = none := rfl
  have hdp : Fence.wide.depth = none := rfl
  have hMF := (callsIn_wide (n := 0)).2 (wide_calls width m hm W)
  generalize Fence.wide = F at *
  refine callsIn_of_wp Tryd.func30 rfl (hFn _) ?_ hro
  simp only [Tryd.ntmps30, List.size_toArray, List.length_cons, List.length_nil, Nat.reduceAdd, Nat.reduceSub, Array.replicate_succ, Array.replicate_zero, List.push_toArray, List.append_toArray, List.nil_append, List.cons_append]
  have HM := Lib.hid hMF
  have HN := Lib.hid hnW
  clear hMF hnW hwW hn hw
  gi_wp2_with fail
  refine HM.out.mono ?_
  rintro e W1 ⟨rfl, rfl⟩
  gi_wp2_with fail
  gi_loopw [6] (fun v wr => ∃ (C : Nat → Prop) (i : Nat), i ≤ m ∧ v = .int .i64 i ∧ J i C wr ∧ RowKit.Hid (wr.heap[nb]? = some (.cells #[U (n >>> (8 * i))] 25 (0, 0))) ∧ RowKit.Hid (∀ b, C b → b ≠ nb ∧ b < wr.heap.size)) (fun v _ => m - (intOf v).toNat)
  case atStart => exact ⟨C, 0, by omega, rfl, h0, HN, fun b hb => ⟨fun e => (hC b hb).1 (by rw [e]; exact hRn), (hC b hb).2⟩⟩
  case round =>
    obtain ⟨C, i, hi, rfl, hj, HI, HC⟩ := hrel
    by_cases hlt : i < m
    · obtain ⟨fn, tmps, assign, body, hy, hR'⟩ := hY i C wr hlt hj (fun b hb => (HC.out b hb).2)
      have c1 : wr.cell? ⟨nb, 0, none⟩ = some (U (n >>> (8 * i))) := cell_of_row wr _ 0 _ _ _ HI.out
      have hb : byteN n i = (n >>> (8 * i)).setWidth 8 := rfl
      have hs : n >>> (8 * (i + 1)) = n >>> (8 * i) >>> 8 := by rw [Nat.mul_add, Nat.mul_one, BitVec.shiftRight_add]
      have HS := Lib.hid hs
      clear hs
      rw [hb] at hy
      clear hb
      generalize n >>> (8 * i) = ni at *
      gi_wp2
      refine hR'.mono ?_
      rintro e W3 (⟨rfl, hag3, C3, hj3, hC3⟩ | ⟨rfl, hag3, C3, hj3, hC3⟩)
      · have hr3 := (hag3.block nb (Array.getElem?_eq_some_iff.1 HI.out).1 (fun h => (HC.out nb h).1 rfl)).trans HI.out
        have d1 : W3.cell? ⟨nb, 0, none⟩ = some (U ni) := cell_of_row W3 _ 0 _ _ _ hr3
        have d1f : W3.frozen? ⟨nb, 0, none⟩ = false := frozen_of_row W3 _ 0 _ _ hr3
        have hlt3 := (Array.getElem?_eq_some_iff.1 hr3).1
        have hnC : ¬ C3 nb := fun h => (hC3 nb h).2.elim (fun h' => (HC.out nb h').1 rfl) (fun h' => by have := (Array.getElem?_eq_some_iff.1 HI.out).1; omega)
        have hj4 : J (i + 1) C3 (W3.setCell ⟨nb, 0, none⟩ (U (ni >>> 8))) := hJ _ _ _ _ hj3 ((Agrees.refl _ W3).setCell (.inl (fun h => h.elim hnC (fun h' => by have h2 : nb < n₀ := h'; omega))) _)
        have H4 : RowKit.Hid ((W3.setCell ⟨nb, 0, none⟩ (U (ni >>> 8))).heap[nb]? = some (.cells #[U (n >>> (8 * (i + 1)))] 25 (0, 0))) := by
          rw [HS.out]
          exact heap_setCell_same W3 nb 0 _ _ _ hr3
        have HC4 : RowKit.Hid (∀ b, C3 b → b ≠ nb ∧ b < (W3.setCell ⟨nb, 0, none⟩ (U (ni >>> 8))).heap.size) := fun b hb => ⟨fun e => hnC (by rw [← e]; exact hb), by simpa [World.setCell] using (hC3 b hb).1⟩
        have HJ4 := Lib.hid hj4
        clear hr3 hj4 c1 hC3 hlt3 hj3
        gi_wp2
        exact ⟨⟨C3, i + 1, by omega, by simp, HJ4.out, H4, HC4⟩, by simp [intOf]; omega⟩
      · gi_wp2
        refine bodyPost_ret (results_none rfl _ _ _) rfl ?_
        exact ⟨⟨_, rfl⟩, C3, .inr ⟨i, hlt, hj3⟩⟩
    · obtain rfl : i = m := by omega
      gi_wp2
      go_end0
      exact ⟨⟨_, rfl⟩, C, .inl hj⟩
end Suture
