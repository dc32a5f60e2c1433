/-
  POINTERS: ptr.Meta, ptr.Of, ptr.Fits.
  Conditions: none.
-/
import Derived.Test.YtmkbchhmeaefeaaDoorPage
namespace Suture
open Go Go.RowKit Go.Proofs

/-- a pointer's value -/
structure Ptr where
  kd : Int
  a0 : Int
  a1 : Int
  bi : Int
  su : BitVec 64
def Ptr.ok (x : Ptr) : Prop := (0 ≤ x.kd ∧ x.kd ≤ 255) ∧ (0 ≤ x.a0 ∧ x.a0 ≤ 65535) ∧ (0 ≤ x.a1 ∧ x.a1 ≤ 65535) ∧ (0 ≤ x.bi ∧ x.bi ≤ 4294967295)
def Ptr.cells (x : Ptr) : Array Value := #[.int .u8 x.kd, .int .u16 x.a0, .int .u16 x.a1, .int .u32 x.bi, U x.su]
def Ptr.meta (x : Ptr) : Bool := x.kd == 1 || x.kd == 2
/-- its addresses -/
def Ptr.addrs (x : Ptr) : List Int := if x.meta then [x.a0, x.a1] else if x.kd = 3 then [x.a0] else []

set_option maxHeartbeats 400000 in
theorem meta_calls (x : Ptr) (w : World) : Calls Tryd.prog 15 #[.agg x.cells] w fun e w' => e = .returned (.bool x.meta) ∧ Agrees All w w' := by
  obtain ⟨kd, a0, a1, bi, su⟩ := x
  simp only [Ptr.cells, Ptr.meta]
  go_enter Tryd.func15, Tryd.ntmps15
  go_wp2
  all_goals
    go_ret
    exact ⟨by simp_all, (Agrees.refl _ w).alloc _⟩

theorem isAgg_ptr : IsAgg Tryd.prog 27 5 := ⟨⟨_, Tryd.underlying27, rfl⟩, by kernel_rfl⟩
theorem Ptr.load (x : Ptr) {W : World} {b : Nat} {t : TypeId} (h : W.heap[b]? = some (.cells x.cells t (0, 0))) : ∀ j, j < 5 → W.cell? ⟨b, 0 + j, none⟩ = x.cells[j]? := by
  intro j _; rw [Nat.zero_add]; exact cell_of_row W _ _ _ _ _ h
theorem ptr_at {kd a0 a1 bi : Int} {su : BitVec 64} {W : World} {b : Nat} {t : TypeId} (h : W.heap[b]? = some (.cells (Ptr.mk kd a0 a1 bi su).cells t (0, 0))) :
    W.cell? ⟨b, 0, none⟩ = some (.int .u8 kd) ∧ W.cell? ⟨b, 1, none⟩ = some (.int .u16 a0) ∧ W.cell? ⟨b, 2, none⟩ = some (.int .u16 a1) ∧ W.cell? ⟨b, 3, none⟩ = some (.int .u32 bi) ∧ W.cell? ⟨b, 4, none⟩ = some (U su) := by
  have hc := fun j => cell_of_row W b j _ _ _ h
  exact ⟨hc 0, hc 1, hc 2, hc 3, hc 4⟩

attribute [local go_sem] Oper.semAt_some
set_option maxHeartbeats 1000000 in
theorem addresses1_iter (R : Nat → Prop) (n₀ : Nat) (w0 : World) (Bx : Nat) (x : Ptr) (hx : x.ok) (hbox : w0.heap[Bx]? = some (.cells x.cells 27 (0, 0))) (hRB : R Bx) (hR : ∀ b, R b → b < w0.heap.size) :
    IterAt Tryd.prog 29 #[.pointer (some ⟨Bx, 0, none⟩)] (fun k => #[.int .i64 (x.addrs.getD k 0)]) x.addrs.length n₀ R w0 := by
  intro l J Jx C W hag hC hJ hJx hY h0
  refine (callsIn_wide (n := 0)).1 ?_
  have hB := (Array.getElem?_eq_some_iff.1 hbox).1
  have hbW : W.heap[Bx]? = some (.cells x.cells 27 (0, 0)) := (hag.block Bx hB hRB).trans hbox
  have hFn : ∀ f, Fence.wide.fn f := fun _ => trivial
  have hro : Fence.wide.round = none := rfl
  have hdp : Fence.wide.depth = none := rfl
  have hMF := fun W => (callsIn_wide (n := 0)).2 (meta_calls x W)
  obtain ⟨kd, a0, a1, bi, su⟩ := x
  obtain ⟨hk, h0r, h1r, _⟩ := hx
  simp only at hk h0r h1r
  have hBW := (Array.getElem?_eq_some_iff.1 hbW).1
  obtain ⟨c0, c1, c2, c3, c4⟩ := ptr_at hbW
  have hm : (Ptr.mk kd a0 a1 bi su).meta = (kd == 1 || kd == 2) := rfl
  have hL : (Ptr.mk kd a0 a1 bi su).addrs = if (kd == 1 || kd == 2) = true then [a0, a1] else if kd = 3 then [a0] else [] := rfl
  have w16 : ∀ a : Int, 0 ≤ a ∧ a ≤ 65535 → IntKind.i64.wrap a = a := fun a h => by rw [IntKind.wrap_i64]; omega
  have e0 := w16 a0 h0r
  have e1 := w16 a1 h1r
  rw [hL] at hY ⊢
  rw [hm] at hMF
  have hbW' := Lib.hid hbW
  clear hbW hbox w16 hL hm
  simp only [Ptr.cells] at hMF
  by_cases hmt : (kd == 1 || kd == 2) = true
  · rw [if_pos hmt] at hY ⊢
    rw [hmt] at hMF
    generalize Fence.wide = F at *
    refine callsIn_of_wp Tryd.func29 rfl (hFn _) ?_ hro
    simp only [Tryd.ntmps29, List.size_toArray, List.length_cons, List.length_nil, Nat.reduceAdd, Nat.reduceSub, Array.replicate_succ, Array.replicate_zero, List.push_toArray, List.append_toArray, List.nil_append, List.cons_append]
    have hF2 := Lib.hid hMF
    clear hMF
    gi_wp2_with fail
    refine (hF2.out _).mono ?_
    rintro e W1 ⟨rfl, hag1⟩
    have hag01 : Agrees R w0 W1 := hag.trans hag1.weak
    have hbW1 := (hag1.block Bx hBW trivial).trans hbW'.out
    have hj0 : J 0 C W1 := hJ 0 C W W1 h0 hag1.weak
    have hC1 : ∀ b, C b → ¬ R b ∧ b < W1.heap.size := fun b hb => ⟨(hC b hb).1, Nat.lt_of_lt_of_le (hC b hb).2 hag1.size⟩
    obtain ⟨c0, c1, c2, c3, c4⟩ := ptr_at hbW1
    have HB1 := Lib.hid hbW1
    clear hbW1 hbW'
    obtain ⟨fn, tmps, assign, body, hy, hR'⟩ := hY 0 C W1 (by simp) hj0 (fun b hb => (hC1 b hb).2)
    simp only [List.getD_cons_zero] at hy
    gi_wp2
    refine hR'.mono ?_
    rintro e W3 (⟨rfl, hag3, C3, hj3, hC3⟩ | ⟨rfl, hag3, C3, hj3, hC3⟩)
    · have hbW3 := (hag3.block Bx (Array.getElem?_eq_some_iff.1 HB1.out).1 (fun h => (hC1 Bx h).1 hRB)).trans HB1.out
      have hC3' : ∀ b, C3 b → ¬ R b ∧ b < W3.heap.size := fun b hb => ⟨fun hr => (hC3 b hb).2.elim (fun h => (hC1 b h).1 hr) (fun h => by have := hR b hr; have := hag01.size; omega), (hC3 b hb).1⟩
      obtain ⟨d0, d1, d2, d3, d4⟩ := ptr_at hbW3
      have HB3 := Lib.hid hbW3
      clear c0 c1 c2 c3 c4 hbW3 hy
      gi_wp2_with fail
      refine (hF2.out _).mono ?_
      rintro e W4 ⟨rfl, hag4⟩
      have hbW4 := (hag4.block Bx (Array.getElem?_eq_some_iff.1 HB3.out).1 trivial).trans HB3.out
      have hj4 : J 1 C3 W4 := hJ 1 C3 W3 W4 hj3 hag4.weak
      have hC4 : ∀ b, C3 b → b < W4.heap.size := fun b hb => Nat.lt_of_lt_of_le (hC3' b hb).2 hag4.size
      obtain ⟨c0, c1, c2, c3, c4⟩ := ptr_at hbW4
      clear d0 d1 d2 d3 d4 hbW4
      obtain ⟨fn, tmps, assign, body, hy, hR4⟩ := hY 1 C3 W4 (by simp) hj4 hC4
      simp only [List.getD_cons_succ, List.getD_cons_zero] at hy
      gi_wp2
      refine hR4.mono ?_
      rintro e W5 (⟨rfl, hag5, C5, hj5, hC5⟩ | ⟨rfl, hag5, C5, hj5, hC5⟩)
      · gi_wp2
        go_end0
        exact ⟨⟨_, rfl⟩, C5, .inl hj5⟩
      · gi_wp2
        go_end0
        exact ⟨⟨_, rfl⟩, C5, .inr ⟨1, by simp, hj5⟩⟩
    · gi_wp2
      refine bodyPost_ret (results_none rfl _ _ _) rfl ?_
      exact ⟨⟨_, rfl⟩, C3, .inr ⟨0, by simp, hj3⟩⟩
  · rw [if_neg hmt] at hY ⊢
    have hmf : (kd == 1 || kd == 2) = false := by simpa using hmt
    rw [hmf] at hMF
    by_cases h3 : kd = 3
    · rw [if_pos h3] at hY ⊢
      subst h3
      clear hmt hmf
      generalize Fence.wide = F at *
      refine callsIn_of_wp Tryd.func29 rfl (hFn _) ?_ hro
      simp only [Tryd.ntmps29, List.size_toArray, List.length_cons, List.length_nil, Nat.reduceAdd, Nat.reduceSub, Array.replicate_succ, Array.replicate_zero, List.push_toArray, List.append_toArray, List.nil_append, List.cons_append]
      have hF2 := Lib.hid hMF
      clear hMF
      gi_wp2_with fail
      refine (hF2.out _).mono ?_
      rintro e W1 ⟨rfl, hag1⟩
      have hag01 : Agrees R w0 W1 := hag.trans hag1.weak
      have hbW1 := (hag1.block Bx hBW trivial).trans hbW'.out
      have hj0 : J 0 C W1 := hJ 0 C W W1 h0 hag1.weak
      have hC1 : ∀ b, C b → ¬ R b ∧ b < W1.heap.size := fun b hb => ⟨(hC b hb).1, Nat.lt_of_lt_of_le (hC b hb).2 hag1.size⟩
      obtain ⟨c0, c1, c2, c3, c4⟩ := ptr_at hbW1
      have HB1 := Lib.hid hbW1
      clear hbW1 hbW'
      obtain ⟨fn, tmps, assign, body, hy, hR'⟩ := hY 0 C W1 (by simp) hj0 (fun b hb => (hC1 b hb).2)
      simp only [List.getD_cons_zero] at hy
      gi_wp2
      refine hR'.mono ?_
      rintro e W3 (⟨rfl, hag3, C3, hj3, hC3⟩ | ⟨rfl, hag3, C3, hj3, hC3⟩)
      · have hbW3 := (hag3.block Bx (Array.getElem?_eq_some_iff.1 HB1.out).1 (fun h => (hC1 Bx h).1 hRB)).trans HB1.out
        have hC3' : ∀ b, C3 b → ¬ R b ∧ b < W3.heap.size := fun b hb => ⟨fun hr => (hC3 b hb).2.elim (fun h => (hC1 b h).1 hr) (fun h => by have := hR b hr; have := hag01.size; omega), (hC3 b hb).1⟩
        obtain ⟨d0, d1, d2, d3, d4⟩ := ptr_at hbW3
        have HB3 := Lib.hid hbW3
        clear c0 c1 c2 c3 c4 hbW3 hy
        gi_wp2_with fail
        refine (hF2.out _).mono ?_
        rintro e W4 ⟨rfl, hag4⟩
        have hj4 : J 1 C3 W4 := hJ 1 C3 W3 W4 hj3 hag4.weak
        gi_wp2_with fail
        go_end0
        exact ⟨⟨_, rfl⟩, C3, .inl hj4⟩
      · gi_wp2
        refine bodyPost_ret (results_none rfl _ _ _) rfl ?_
        exact ⟨⟨_, rfl⟩, C3, .inr ⟨0, by simp, hj3⟩⟩
    · rw [if_neg h3] at hY ⊢
      generalize Fence.wide = F at *
      refine callsIn_of_wp Tryd.func29 rfl (hFn _) ?_ hro
      simp only [Tryd.ntmps29, List.size_toArray, List.length_cons, List.length_nil, Nat.reduceAdd, Nat.reduceSub, Array.replicate_succ, Array.replicate_zero, List.push_toArray, List.append_toArray, List.nil_append, List.cons_append]
      have hF2 := Lib.hid hMF
      clear hMF
      gi_wp2_with fail
      refine (hF2.out _).mono ?_
      rintro e W1 ⟨rfl, hag1⟩
      have hag01 : Agrees R w0 W1 := hag.trans hag1.weak
      have hbW1 := (hag1.block Bx hBW trivial).trans hbW'.out
      have hj0 : J 0 C W1 := hJ 0 C W W1 h0 hag1.weak
      have hC1 : ∀ b, C b → ¬ R b ∧ b < W1.heap.size := fun b hb => ⟨(hC b hb).1, Nat.lt_of_lt_of_le (hC b hb).2 hag1.size⟩
      obtain ⟨c0, c1, c2, c3, c4⟩ := ptr_at hbW1
      have HB1 := Lib.hid hbW1
      clear hbW1 hbW'
      gi_wp2_with fail
      refine bodyPost_ret (results_none rfl _ _ _) rfl ?_
      exact ⟨⟨_, rfl⟩, C, .inl hj0⟩
end Suture
