/-
  EQUALITY OF ARRAYS AND STRUCTS OF NUMBERS (no program).
  Conditions: none beyond each theorem's own.
-/
import Derived.Test.YtmkbchhmeaefeaaDoorArr2
import Derived.DeepKeys2
import Derived.MapViews
namespace Suture
open Go Go.RowKit

section
variable {P : Program}

/-- the cells of a value that == can be asked of -/
def Keyed (P : Program) (m : Nat) (t : TypeId) (xs : Array Value) : Prop := (Value.agg xs).formed P t = true ∧ ∃ l, P.keyLits m t xs.toList = some l
/-- the types for it -/
def Keyable (P : Program) (m : Nat) (t : TypeId) : Prop := m ≤ 10000 ∧ P.keyTypeAt m t = true ∧ P.tiled m t = true ∧ P.eqGuardType P.depth t = false

theorem eqA_run {m : Nat} {t : TypeId} (hK : Keyable P m t) {xs ys : Array Value} (hx : Keyed P m t xs) (hy : Keyed P m t ys) (w : World) :
    ∃ r : Bool, (Op.equalIn 10000 t (.agg xs) (.agg ys)).run P w = .ok r w ∧ (r = true ↔ xs = ys) := by
  obtain ⟨hm, hk, ht, _⟩ := hK
  obtain ⟨fx, lx, hx⟩ := hx
  obtain ⟨fy, ly, hy⟩ := hy
  obtain ⟨r, hr, hiff⟩ := run_equalIn_deep (10000 - m) m t hk w m m (.agg xs) (.agg ys) lx ly fx fy hx hy
  rw [show 10000 - m + m = 10000 by omega] at hr
  refine ⟨r, hr, hiff.trans ⟨fun h => ?_, fun h => ?_⟩⟩
  · have e1 := cells_of_lits m t ht m _ _ hx
    have e2 := cells_of_lits m t ht m _ _ hy
    have : xs.toList = ys.toList := by rw [e1, e2, h]
    simpa using congrArg List.toArray this
  · subst h
    exact Option.some.inj (hx.symm.trans hy)

theorem ex_eql {m : Nat} {t ty : TypeId} (hK : Keyable P m t) {xs ys : Array Value} (hx : Keyed P m t xs) (hy : Keyed P m t ys) {o : Oper} {a : Act} {w : World} {x y : Operand} (ho : o.op = .binOp .eql t x y ty)
    (ex : a.eval x = .agg xs) (ey : a.eval y = .agg ys) : ∃ r : Bool, (execOp a.eval o).run P w = .ok (.value (.bool r)) w ∧ (r = true ↔ xs = ys) := by
  obtain ⟨r, hr, hiff⟩ := eqA_run hK hx hy w
  refine ⟨r, ?_, hiff⟩
  unfold execOp
  simp [ho, ex, ey, Sem.run_bind, run_eqGuard_agg (hm := hK.2.2.2), run_eql_struct, hr]
theorem ex_neq {m : Nat} {t ty : TypeId} (hK : Keyable P m t) {xs ys : Array Value} (hx : Keyed P m t xs) (hy : Keyed P m t ys) {o : Oper} {a : Act} {w : World} {x y : Operand} (ho : o.op = .binOp .neq t x y ty)
    (ex : a.eval x = .agg xs) (ey : a.eval y = .agg ys) : ∃ r : Bool, (execOp a.eval o).run P w = .ok (.value (.bool (!r))) w ∧ (r = true ↔ xs = ys) := by
  obtain ⟨r, hr, hiff⟩ := eqA_run hK hx hy w
  refine ⟨r, ?_, hiff⟩
  unfold execOp
  simp [ho, ex, ey, Sem.run_bind, run_eqGuard_agg (hm := hK.2.2.2), run_neq_struct, hr]

theorem opTo_eql {m : Nat} {t ty : TypeId} (hK : Keyable P m t) {xs ys : Array Value} (hx : Keyed P m t xs) (hy : Keyed P m t ys) {ops : Array Oper} {o : Oper} {a : Act} {w : World} {x y : Operand} {R : Value → World → Prop}
    (hw : Region.wanted o (yielded ops a.tmps) = true) (ho : o.op = .binOp .eql t x y ty) (ex : a.eval x = .agg xs) (ey : a.eval y = .agg ys) (h : ∀ r : Bool, (r = true ↔ xs = ys) → R (.bool r) w) : OpTo P ops o a w R := by
  obtain ⟨r, hr, hiff⟩ := ex_eql hK hx hy (w := w) ho ex ey
  exact opTo_val hw hr (h r hiff)
theorem opTo_neq {m : Nat} {t ty : TypeId} (hK : Keyable P m t) {xs ys : Array Value} (hx : Keyed P m t xs) (hy : Keyed P m t ys) {ops : Array Oper} {o : Oper} {a : Act} {w : World} {x y : Operand} {R : Value → World → Prop}
    (hw : Region.wanted o (yielded ops a.tmps) = true) (ho : o.op = .binOp .neq t x y ty) (ex : a.eval x = .agg xs) (ey : a.eval y = .agg ys) (h : ∀ r : Bool, (r = true ↔ xs = ys) → R (.bool (!r)) w) : OpTo P ops o a w R := by
  obtain ⟨r, hr, hiff⟩ := ex_neq hK hx hy (w := w) ho ex ey
  exact opTo_val hw hr (h r hiff)

theorem mapM_all {α β : Type} {f : α → Option β} : ∀ (l : List α), (∀ x ∈ l, ∃ y, f x = some y) → ∃ ys, l.mapM f = some ys
  | [], _ => ⟨[], rfl⟩
  | x :: l, h => by
    obtain ⟨y, hy⟩ := h x (by simp)
    obtain ⟨ys, hys⟩ := mapM_all l (fun z hz => h z (by simp [hz]))
    exact ⟨y :: ys, by rw [List.mapM_cons, hy, hys]; rfl⟩
/-- an array of numbers -/
theorem keyed_ints {t e : TypeId} {N : Nat} {k : IntKind} (ht : P.underlying t = some (.array N e)) (he : P.underlying e = some (.int k)) (hc : P.cellsOf e = 1) (hN : P.cellsOf t = N) (xs : Array Value)
    (hs : xs.size = N) (h : ∀ i, i < N → ∃ z, xs[i]? = some (.int k z) ∧ (Lit.int k z).wf = true) : Keyed P 2 t xs := by
  refine ⟨by simp [Value.formed, ht, hN, hs], ?_⟩
  unfold Program.keyLits
  simp only [ht]
  rw [if_pos (by simpa [hN] using hs)]
  obtain ⟨ys, hys⟩ := mapM_all (f := fun i => P.keyLits 1 e ((xs.toList.drop (i * P.cellsOf e)).take (P.cellsOf e))) (List.range N) (fun i hi => by
    have hi' : i < N := List.mem_range.1 hi
    obtain ⟨z, hz, hw⟩ := h i hi'
    refine ⟨[.int k z], ?_⟩
    have e1 : (xs.toList.drop (i * P.cellsOf e)).take (P.cellsOf e) = [.int k z] := by
      rw [hc, Nat.mul_one, List.drop_eq_getElem_cons (by simpa [hs] using hi')]
      simp only [List.take_succ_cons, List.take_zero]
      rw [Array.getElem?_eq_getElem (by omega)] at hz
      simpa using hz
    rw [e1]
    unfold Program.keyLits
    simp [he, hw])
  rw [hys]
  exact ⟨_, rfl⟩
theorem wf_u64 (c : BitVec 64) : ∃ z, U c = .int .u64 z ∧ (Lit.int .u64 z).wf = true :=
  ⟨_, rfl, by have := c.isLt; simp [Lit.wf, IntKind.min, IntKind.max, IntKind.signed, IntKind.bits]; omega⟩
theorem wf_u8 (c : BitVec 8) : ∃ z, B c = .int .u8 z ∧ (Lit.int .u8 z).wf = true :=
  ⟨_, rfl, by have := c.isLt; simp [Lit.wf, IntKind.min, IntKind.max, IntKind.signed, IntKind.bits]; omega⟩
end
end Suture
