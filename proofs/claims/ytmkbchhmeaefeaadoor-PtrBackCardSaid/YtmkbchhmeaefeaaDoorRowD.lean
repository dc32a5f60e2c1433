/-
  FROM A CONTRACT TO A ROW's STEP, seat d: a pointer that came in.
  Conditions: none beyond each theorem's own.
-/
import Derived.Test.YtmkbchhmeaefeaaDoorRow
import Derived.Test.YtmkbchhmeaefeaaDoorPtr6
namespace Suture
open Go Go.Proofs Go.RowKit Go.ChangeShapes Go.WideShapes Go.ChangeAt

section
variable {H : Type} {enc : TypeId × Value → H}

theorem open_ptr {W : World} {v : Value} {d : DataW H} {ps : List MemPlace} {r : Reach} {base : Nat} (hval : Value.okWide Tryd.prog W r base 27 v) (h : DataW.Trod enc Tryd.prog W 0 (fun _ => true) true 27 v d ps) :
    ∃ x : Ptr, x.ok ∧ v = .agg x.cells := by
  obtain ⟨ys, rfl, hs⟩ := okWide_struct Tryd.underlying27 hval
  obtain ⟨fuel, hf⟩ := h
  have c0 : Tryd.prog.cellsOf 27 = 5 := by kernel_rfl
  have c1 : Tryd.prog.cellsOf 5 = 1 := by kernel_rfl
  have c2 : Tryd.prog.cellsOf 22 = 1 := by kernel_rfl
  have c3 : Tryd.prog.cellsOf 24 = 1 := by kernel_rfl
  have c4 : Tryd.prog.cellsOf 25 = 1 := by kernel_rfl
  have c5 : Tryd.prog.cellsOf 23 = 2 := by kernel_rfl
  rw [c0] at hs
  obtain ⟨xs, n, rfl, _, hl, hx, hat⟩ := DataW.trod_struct Tryd.underlying27 hf
  have g : ∀ i, i < 4 → ∃ y, xs[i]? = some y := fun i hi => ⟨_, List.getElem?_eq_getElem (by rw [hx]; exact hi)⟩
  obtain ⟨y0, e0⟩ := g 0 (by decide)
  obtain ⟨y1, e1⟩ := g 1 (by decide)
  obtain ⟨y2, e2⟩ := g 2 (by decide)
  obtain ⟨y3, e3⟩ := g 3 (by decide)
  have t0 : DataW.trod enc Tryd.prog W 0 (fun _ => true) true n 5 ((ys.toList.drop 0).take (Tryd.prog.cellsOf 5)) = some y0 := (hat 0 _ rfl).trans e0
  have t1 : DataW.trod enc Tryd.prog W 0 (fun _ => true) true n 23 ((ys.toList.drop 1).take (Tryd.prog.cellsOf 23)) = some y1 := (hat 1 _ rfl).trans e1
  have t2 : DataW.trod enc Tryd.prog W 0 (fun _ => true) true n 24 ((ys.toList.drop 3).take (Tryd.prog.cellsOf 24)) = some y2 := (hat 2 _ rfl).trans e2
  have t3 : DataW.trod enc Tryd.prog W 0 (fun _ => true) true n 25 ((ys.toList.drop 4).take (Tryd.prog.cellsOf 25)) = some y3 := (hat 3 _ rfl).trans e3
  rw [c1] at t0
  rw [c5] at t1
  rw [c3] at t2
  rw [c4] at t3
  obtain ⟨kd, k0, _, w0⟩ := DataW.trod_int Tryd.underlying5 t0
  obtain ⟨zs, m, rfl, _, _, hz, hzt⟩ := DataW.trod_array Tryd.underlying23 t1
  obtain ⟨bi, k2, _, w2⟩ := DataW.trod_int Tryd.underlying24 t2
  obtain ⟨su, k3, _, w3⟩ := DataW.trod_int Tryd.underlying25 t3
  have u0 := (hzt 0 (by decide)).trans (List.getElem?_eq_getElem (by rw [hz]; decide))
  have u1 := (hzt 1 (by decide)).trans (List.getElem?_eq_getElem (by rw [hz]; decide))
  obtain ⟨a0, k10, _, w10⟩ := DataW.trod_int Tryd.underlying22 u0
  obtain ⟨a1, k11, _, w11⟩ := DataW.trod_int Tryd.underlying22 u1
  rw [c2] at k10 k11
  clear t0 t1 t2 t3 u0 u1 hat hzt hf e0 e1 e2 e3 g hval
  obtain ⟨l⟩ := ys
  match l, hs with
  | [p0, p1, p2, p3, p4], _ =>
    simp at k0 k2 k3 k10 k11
    subst k0 k2 k3 k10 k11
    have b0 : 0 ≤ kd ∧ kd ≤ 255 := by simpa [Lit.wf, IntKind.min, IntKind.max, IntKind.signed, IntKind.bits] using w0
    have b1 : 0 ≤ a0 ∧ a0 ≤ 65535 := by simpa [Lit.wf, IntKind.min, IntKind.max, IntKind.signed, IntKind.bits] using w10
    have b2 : 0 ≤ a1 ∧ a1 ≤ 65535 := by simpa [Lit.wf, IntKind.min, IntKind.max, IntKind.signed, IntKind.bits] using w11
    have b3 : 0 ≤ bi ∧ bi ≤ 4294967295 := by simpa [Lit.wf, IntKind.min, IntKind.max, IntKind.signed, IntKind.bits] using w2
    exact ⟨⟨kd, a0, a1, bi, BitVec.ofInt 64 su⟩, ⟨b0, b1, b2, b3⟩, by rw [u64_of w3]; rfl⟩
end
end Suture
