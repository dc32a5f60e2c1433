/-
  ONE ELEMENT AT ONE STEP (no program): an element's address in a slice and in an array, a load and a store of one cell; the record of a region whose last operation alone writes.
  Conditions: none beyond each theorem's own.
-/
import Derived.Test.YtmkbchhmeaefeaaDoorPlan
namespace Suture
open Go Go.RowKit

theorem Agrees.setRow {R : Nat → Prop} {A W : World} (h : Agrees R A W) {p : Nat} (hp : ¬ R p ∨ A.heap.size ≤ p) (cs : Array Value) : Agrees R A (W.setRow p cs) :=
  ⟨h.os, h.tape, h.output, by have := h.size; simpa using this, fun b hb hr => by
    refine (setRow_other W p b cs (fun e => ?_)).trans (h.block b hb hr)
    subst e
    rcases hp with hp | hp
    · exact hp hr
    · omega⟩

section
variable {P : Program} {o : Oper} {a : Act} {w : World}

theorem ex_idx {T E : TypeId} {x y : Operand} {sz : Nat} (ho : o.op = .indexAddr T x y) (hu : P.underlying T = some (.slice E)) (hs : (P.info? E).map (·.size) = some sz) (b off n cap i : Nat)
    (hx : a.eval x = .slice (some ⟨b, off, none⟩) n cap) (hy : a.eval y = .int .i64 i) (hi : i < n) :
    (execOp a.eval o).run P w = .ok (.value (.pointer (some ⟨b, off + i * sz, none⟩))) w := by
  cases hq : P.info? E with
  | none => simp [hq] at hs
  | some inf =>
    have hsz : inf.size = sz := by simpa [hq] using hs
    unfold execOp
    simp [ho, hx, hy, Instr.indexAt, asIntOf, run_underlying hu, Sem.run_bind, Go.sizeOf, typeInfo, hq, hsz, hi, addr_add]
theorem ex_idxArr {T E : TypeId} {x y : Operand} {sz len : Nat} (ho : o.op = .indexAddr T x y) (hu : P.underlying T = some (.array len E)) (hs : (P.info? E).map (·.size) = some sz) (b off i : Nat)
    (hx : a.eval x = .pointer (some ⟨b, off, none⟩)) (hy : a.eval y = .int .i64 i) (hi : i < len) :
    (execOp a.eval o).run P w = .ok (.value (.pointer (some ⟨b, off + i * sz, none⟩))) w := by
  cases hq : P.info? E with
  | none => simp [hq] at hs
  | some inf =>
    have hsz : inf.size = sz := by simpa [hq] using hs
    unfold execOp
    simp [ho, hx, hy, Instr.indexAt, Instr.sureAddr, asIntOf, run_underlying hu, Sem.run_bind, Go.sizeOf, typeInfo, hq, hsz, hi, addr_add]

/-- types of one cell that are no rows -/
def IsOne (P : Program) (ty : TypeId) : Prop := (∃ d, P.underlying ty = some d ∧ (match d with | .struct _ | .array _ _ => true | _ => false) = false) ∧ (P.info? ty).map (·.size) = some 1
theorem ex_load1 {ty : TypeId} {x : Operand} (ho : o.op = .load ty x) (hA : IsOne P ty) {b off : Nat} (hx : a.eval x = .pointer (some ⟨b, off, none⟩)) {v : Value} (hc : w.cell? ⟨b, off, none⟩ = some v) :
    (execOp a.eval o).run P w = .ok (.value v) w := by
  obtain ⟨⟨d, hu, hd⟩, hi⟩ := hA
  have hagg : (isAgg ty).run P w = .ok false w := by
    unfold isAgg
    rw [Sem.run_bind, run_underlying hu w]
    cases d <;> simp_all
  unfold execOp
  simp [ho, hx, Instr.loadAt, Instr.sureAddr, Sem.run_bind, loadVar, hagg, hc]
theorem ex_store1 {ty : TypeId} {x y : Operand} (ho : o.op = .store ty x y) (hA : IsOne P ty) {b off : Nat} (hx : a.eval x = .pointer (some ⟨b, off, none⟩)) {v v0 : Value} (hy : a.eval y = v) (hc : w.cell? ⟨b, off, none⟩ = some v0)
    (hf : w.frozen? ⟨b, off, none⟩ = false) (h1 : v.oneCell' = true) : (execOp a.eval o).run P w = .ok .skip (w.setCell ⟨b, off, none⟩ v) := by
  cases hq : P.info? ty with
  | none => simp [hq, IsOne] at hA
  | some inf =>
    have hsz : inf.size = 1 := by simpa [hq] using hA.2
    have hcs : v.cells = #[v] := by cases v <;> simp_all [Value.cells, Value.oneCell']
    unfold execOp
    simp [ho, hx, hy, Instr.storeAt, Instr.sureAddr, Sem.run_bind, storeVar, hcs, Go.sizeOf, typeInfo, hq, hsz, storeCells, run_store _ _ _ _ _ h1, addr_add, hc, hf]
end
end Suture
