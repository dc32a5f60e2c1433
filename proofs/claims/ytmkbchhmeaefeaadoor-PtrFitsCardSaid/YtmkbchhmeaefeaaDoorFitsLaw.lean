/-
  PLAIN LAWS for suturelaw05.PtrFits: a burst in a page; pages as keys.
  Conditions: none beyond each theorem's own.
-/
import Derived.Test.YtmkbchhmeaefeaaDoorWakes05
import Derived.Test.YtmkbchhmeaefeaaDoorBoxes
import Derived.Test.YtmkbchhmeaefeaaDoorPoly2
import Derived.Test.YtmkbchhmeaefeaaDoorWhere1
namespace Suture
open Go Go.RowKit Go.Proofs
theorem tmod_range (x : Int) (m : Nat) (hm : 0 < m) : -(m : Int) < x.tmod m ∧ x.tmod m < m := by
  have h1 := Int.tmod_lt_of_pos x (show (0 : Int) < m by omega)
  have h2 := Int.lt_tmod_of_pos x (show (0 : Int) < m by omega)
  omega
theorem turn_of (n : Nat) (x : Int) (hn : n ≤ 3000) (h0 : 0 < n) : ∃ k : Nat, k < n ∧ (wrap64 (x.tmod n + n)).tmod n = k := by
  have h := tmod_range x n h0
  have e : wrap64 (x.tmod n + n) = x.tmod n + n := by unfold wrap64; omega
  rw [e]
  have h2 := tmod_range (x.tmod n + n) n h0
  have h3 : 0 ≤ (x.tmod n + n).tmod n := Int.tmod_nonneg _ (by omega)
  exact ⟨((x.tmod n + n).tmod n).toNat, by omega, by omega⟩

theorem keyable_page : Keyable Tryd.prog 2 37 := ⟨by decide, by kernel_rfl, by kernel_rfl, by kernel_rfl⟩
theorem keyed_page (p : List (BitVec 8)) (hl : p.length = 256) : Keyed Tryd.prog 2 37 (pageCells p) :=
  keyed_ints Tryd.underlying37 Tryd.underlying5 (by kernel_rfl) (by kernel_rfl) _ (by rw [pageCells_size, hl]) (fun i hi => by
    obtain ⟨z, hz, hw⟩ := wf_u8 (p.getD i 0)
    exact ⟨z, by rw [pageCells_get p i (by omega), hz], hw⟩)
theorem B_inj {a b : BitVec 8} (h : B a = B b) : a = b := by
  unfold B at h
  injection h with _ h
  exact BitVec.eq_of_toNat_eq (by omega)
theorem pageCells_inj {p q : List (BitVec 8)} (h : pageCells p = pageCells q) : p = q := by
  rw [pageCells_def, pageCells_def] at h
  have h2 : p.map B = q.map B := by simpa using congrArg Array.toList h
  exact (List.map_inj_right (fun _ _ => B_inj)).1 h2
theorem pageEq_of {p q : List (BitVec 8)} {r : Bool} (h : r = true ↔ pageCells p = pageCells q) : r = (p == q) := by
  have h2 : r = true ↔ (p == q) = true := h.trans ⟨fun e => by rw [pageCells_inj e]; simp, fun e => by rw [eq_of_beq e]⟩
  cases r <;> cases hq : (p == q) <;> simp_all
theorem Ptr.one (x : Ptr) : ∀ v ∈ x.cells, v.oneCell' = true := by
  intro v hv
  simp [Ptr.cells] at hv
  rcases hv with rfl | rfl | rfl | rfl | rfl <;> rfl
def zeroPage : List (BitVec 8) := List.replicate 256 0#8
theorem zero_page (w : World) : (zeroValue 37).run Tryd.prog w = .ok (.agg (pageCells zeroPage)) w := by
  rw [pageCells_def]
  kernel_rfl
theorem zeroPage_len : zeroPage.length = 256 := List.length_replicate
theorem ex_build_sum {o : Oper} {a : Act} {w : World} {x : Operand} {c : BitVec 64} (ho : o.op = .build 27 #[(3, x)]) (hx : a.eval x = U c) : (execOp a.eval o).run Tryd.prog w = .ok (.value (.agg (Ptr.mk 0 0 0 0 c).cells)) w := by
  have hb : (Instr.build 27 #[(3, U c)]).run Tryd.prog w = .ok (.agg (Ptr.mk 0 0 0 0 c).cells) w := by kernel_rfl
  unfold execOp
  simp only [ho, List.map_toArray, List.map_cons, List.map_nil, hx, Sem.run_bind, hb, Result.andThen_ok]
  rfl
theorem burst_sum (p y : List (BitVec 8)) (k i : Nat) (hi : i ≤ y.length) (h8 : i ≤ 8) (hk : k + i ≤ p.length) : (sum p == sum (burst p y k i)) = (p == burst p y k i) := by
  have h1 := sum_burst_ne p y k i hi h8 hk
  have hb : burst p y k i = p ↔ burstChanged y i = false := by
    have hbs : p = p.take k ++ (p.drop k).take i ++ p.drop (k + i) := by
      rw [List.append_assoc, ← List.drop_drop, List.take_append_drop, List.take_append_drop]
    have hz := zip_same ((p.drop k).take i) (y.take i) (by simp; omega)
    unfold burstChanged
    rw [← hz]
    constructor
    · intro h
      unfold burst at h
      have h' := h.trans hbs
      rw [List.append_assoc, List.append_assoc, List.append_cancel_left_eq] at h'
      exact List.append_cancel_right h'
    · intro h
      unfold burst
      rw [h]; exact hbs.symm
  cases hc : burstChanged y i
  · have e := hb.2 hc
    rw [e]; simp
  · have e1 : sum (burst p y k i) ≠ sum p := by rw [hc] at h1; simpa using h1
    have e2 : burst p y k i ≠ p := fun e => by have := hb.1 e; rw [hc] at this; cases this
    have a1 : (sum p == sum (burst p y k i)) = false := by simpa using fun e => e1 e.symm
    have a2 : (p == burst p y k i) = false := by simpa using fun e => e2 e.symm
    rw [a1, a2]

/-- the world of a burst in a page, i bytes in -/
structure FitW (w : World) (p y : List (BitVec 8)) (ys : Array Value) (k i : Nat) (W : World) : Prop where
  ag : Agrees All w W
  prow : W.heap[w.heap.size]? = some (.cells (pageCells p) 37 (0, 0))
  yrow : W.heap[w.heap.size + 1]? = some (.cells ys 38 (0, 0))
  qrow : W.heap[w.heap.size + 1 + 1]? = some (.cells (pageCells (burst p y k i)) 37 (0, 0))
theorem pageCells_set (q : List (BitVec 8)) (j : Nat) (x : BitVec 8) : (pageCells q).setIfInBounds j (B x) = pageCells (q.set j x) := by
  rw [pageCells_def, pageCells_def, List.setIfInBounds_toArray, List.map_set]
theorem FitW.step {w : World} {p y : List (BitVec 8)} {ys : Array Value} {k i : Nat} {W : World} (h : FitW w p y ys k i W) (hi : i < y.length) (hk : k + i < p.length) :
    FitW w p y ys k (i + 1) (W.setCell ⟨w.heap.size + 1 + 1, 0 + (k + i) * 1, none⟩ (B (p.getD (k + i) 0 ^^^ y.getD i 0))) := by
  refine ⟨h.ag.setCell (.inr (by show w.heap.size ≤ w.heap.size + 1 + 1; omega)) _, ?_, ?_, ?_⟩
  · rw [heap_setCell_other _ _ _ _ (by show w.heap.size ≠ w.heap.size + 1 + 1; omega)]; exact h.prow
  · rw [heap_setCell_other _ _ _ _ (by show w.heap.size + 1 ≠ w.heap.size + 1 + 1; omega)]; exact h.yrow
  · rw [heap_setCell_same W _ _ _ _ _ h.qrow, Nat.zero_add, Nat.mul_one, pageCells_set, burst_succ p y k i hi hk]
theorem FitW.qcell {w : World} {p y : List (BitVec 8)} {ys : Array Value} {k i : Nat} {W : World} (h : FitW w p y ys k i W) (hi : i ≤ y.length) (hk : k + i < p.length) :
    W.cell? ⟨w.heap.size + 1 + 1, 0 + (k + i) * 1, none⟩ = some (B (p.getD (k + i) 0)) := by
  rw [cell_of_row W _ _ _ _ _ h.qrow, Nat.zero_add, Nat.mul_one, pageCells_get _ _ (by rw [burst_length p y k i hi (by omega)]; exact hk)]
  rw [List.getD_eq_getElem?_getD, burst_get p y k i hi (by omega), ← List.getD_eq_getElem?_getD]
theorem FitW.ycell {w : World} {p y : List (BitVec 8)} {ys : Array Value} {k i : Nat} {W : World} (h : FitW w p y ys k i W) (hys : ∀ i, i < 8 → ys[i]? = some (B (y.getD i 0))) (h8 : i < 8) :
    W.cell? ⟨w.heap.size + 1, 0 + i * 1, none⟩ = some (B (y.getD i 0)) := by
  rw [cell_of_row W _ _ _ _ _ h.yrow, Nat.zero_add, Nat.mul_one, hys i h8]
theorem FitW.drew {w : World} {p y : List (BitVec 8)} {ys : Array Value} {k i : Nat} {W : World} (h : FitW w p y ys k i W) : FitW w p y ys k i W.drew := ⟨h.ag.drew, h.prow, h.yrow, h.qrow⟩

end Suture
