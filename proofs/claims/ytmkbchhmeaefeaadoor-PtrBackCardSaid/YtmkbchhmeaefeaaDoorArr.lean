/-
  WHOLE ARRAYS AND STRUCTS AT ONE STEP (no program): load, store, a new variable, an element; for the walk and for the walk in a round.
  Conditions: none beyond each theorem's own.
-/
import Derived.Test.YtmkbchhmeaefeaaDoorMem
import Derived.Laws.Rows
import Derived.Laws.CopyRow
namespace Suture
open Go Go.RowKit

section
variable {P : Program} {ops : Array Oper} {rest : List Oper} {o : Oper} {a : Act} {w w' : World} {Q : Exit → Act → World → Prop} {v : Value}

theorem wpList_val (hw : Region.wanted o (yielded ops a.tmps) = true) (h : (execOp a.eval o).run P w = .ok (.value v) w') (k : wpList P ops Q rest (a.put o.dst v) w') :
    wpList P ops Q (o :: rest) a w := by
  unfold wpList
  rw [if_pos hw]
  refine .inl ?_
  unfold Oper.wp
  rw [h]
  exact k
theorem wpList_unit (hw : Region.wanted o (yielded ops a.tmps) = true) (h : (execOp a.eval o).run P w = .ok .skip w') (k : wpList P ops Q rest (a.put o.dst undef) w') :
    wpList P ops Q (o :: rest) a w := by
  unfold wpList
  rw [if_pos hw]
  refine .inl ?_
  unfold Oper.wp
  rw [h]
  exact k

theorem wpListIn_val {F : Fence} {n : Nat} (hF : ∀ f, F.fn f) (hs : o.semAt F.round a.eval = execOp a.eval o) (hw : Region.wanted o (yielded ops a.tmps) = true) (h : (execOp a.eval o).run P w = .ok (.value v) w')
    (k : wpListIn F n P ops Q rest (a.put o.dst v) w') : wpListIn F n P ops Q (o :: rest) a w := by
  unfold wpListIn
  rw [if_pos hw]
  refine ⟨fun f _ => hF f, ?_⟩
  rw [hs, h]
  exact k
theorem wpListIn_unit {F : Fence} {n : Nat} (hF : ∀ f, F.fn f) (hs : o.semAt F.round a.eval = execOp a.eval o) (hw : Region.wanted o (yielded ops a.tmps) = true) (h : (execOp a.eval o).run P w = .ok .skip w')
    (k : wpListIn F n P ops Q rest (a.put o.dst undef) w') : wpListIn F n P ops Q (o :: rest) a w := by
  unfold wpListIn
  rw [if_pos hw]
  refine ⟨fun f _ => hF f, ?_⟩
  rw [hs, h]
  exact k

/-- the kinds of types whose values are rows of cells -/
def IsAgg (P : Program) (ty : TypeId) (n : Nat) : Prop := (∃ d, P.underlying ty = some d ∧ (match d with | .struct _ | .array _ _ => true | _ => false) = true) ∧ (P.info? ty).map (·.size) = some n

theorem addr_add (b off j : Nat) : (⟨b, off, none⟩ : Addr).add j = ⟨b, off + j, none⟩ := by unfold Addr.add; split <;> simp_all

theorem run_loadVar_agg {ty : TypeId} {n : Nat} (hA : IsAgg P ty n) (b off : Nat) (vs : Array Value) (hn : vs.size = n) (hc : ∀ j, j < n → w.cell? ⟨b, off + j, none⟩ = vs[j]?) :
    (loadVar ty ⟨b, off, none⟩).run P w = .ok (.agg vs) w := by
  obtain ⟨⟨d, hu, hd⟩, hi⟩ := hA
  have hl : (loadCells ⟨b, off, none⟩ vs.toList.length).run P w = .ok vs.toList.toArray w :=
    run_loadCells_list (P := P) w ⟨b, off, none⟩ vs.toList (fun j v hv => by
      rw [addr_add]
      have hj : j < n := by rw [← hn]; simpa using (List.getElem?_eq_some_iff.1 hv).1
      rw [hc j hj]; simpa using hv)
  cases hq : P.info? ty with
  | none => simp [hq] at hi
  | some i =>
    have hs : i.size = vs.size := by simpa [hq, hn] using hi
    have hagg : (isAgg ty).run P w = .ok true w := by
      unfold isAgg
      rw [Sem.run_bind, run_underlying hu w]
      cases d <;> simp_all
    simp only [Array.length_toList, Array.toArray_toList] at hl
    simp [loadVar, Sem.run_bind, hagg, Go.sizeOf, typeInfo, hq, hs, hl]

theorem ex_load {ty : TypeId} {x : Operand} {n : Nat} (ho : o.op = .load ty x) (hA : IsAgg P ty n) (b off : Nat) (hx : a.eval x = .pointer (some ⟨b, off, none⟩)) (vs : Array Value) (hn : vs.size = n)
    (hc : ∀ j, j < n → w.cell? ⟨b, off + j, none⟩ = vs[j]?) : (execOp a.eval o).run P w = .ok (.value (.agg vs)) w := by
  unfold execOp
  simp only [ho, hx, Instr.loadAt, Instr.sureAddr, Sem.run_bind, Sem.run_pure, Result.andThen_ok, run_loadVar_agg hA b off vs hn hc]

theorem run_storeVar_row {ty t : TypeId} {n : Nat} (hi : (P.info? ty).map (·.size) = some n) (b off : Nat) (vs cur : Array Value) (hn : vs.size = n) (hg : w.heap[b]? = some (.cells cur t (0, 0))) (hfit : off + n ≤ cur.size)
    (h1 : ∀ v ∈ vs, v.oneCell' = true) :
    (storeVar ty ⟨b, off, none⟩ (.agg vs)).run P w = .ok () (w.setRow b (cur.toList.take off ++ vs.toList ++ cur.toList.drop (off + n)).toArray) := by
  have h := run_storeCells_at P b off t vs.toList 0 cur w hg (by simp; omega) (fun v hv => h1 v (by simpa using hv))
  cases hq : P.info? ty with
  | none => simp [hq] at hi
  | some i =>
    have hs : i.size = n := by simpa [hq] using hi
    simp only [Nat.add_zero] at h
    simp [storeVar, Sem.run_bind, Go.sizeOf, typeInfo, hq, hs, Value.cells, hn, h]

theorem ex_store {ty t : TypeId} {x y : Operand} {n : Nat} (ho : o.op = .store ty x y) (hi : (P.info? ty).map (·.size) = some n) (b off : Nat) (hx : a.eval x = .pointer (some ⟨b, off, none⟩)) (vs cur : Array Value) (hy : a.eval y = .agg vs)
    (hn : vs.size = n) (hg : w.heap[b]? = some (.cells cur t (0, 0))) (hfit : off + n ≤ cur.size) (h1 : ∀ v ∈ vs, v.oneCell' = true) :
    (execOp a.eval o).run P w = .ok .skip (w.setRow b (cur.toList.take off ++ vs.toList ++ cur.toList.drop (off + n)).toArray) := by
  unfold execOp
  simp only [ho, hx, hy, Instr.storeAt, Instr.sureAddr, Sem.run_bind, Sem.run_pure, Result.andThen_ok, run_storeVar_row hi b off vs cur hn hg hfit h1]

theorem setRow_all (w : World) (b : Nat) (vs cur : Array Value) (hn : vs.size = cur.size) :
    w.setRow b (cur.toList.take 0 ++ vs.toList ++ cur.toList.drop (0 + vs.size)).toArray = w.setRow b vs := by
  rw [List.take_zero, List.nil_append, Nat.zero_add, hn, List.drop_of_length_le (by simp), List.append_nil, Array.toArray_toList]

/-- a new variable -/
theorem ex_alloc {E : TypeId} (ho : o.op = .alloc E) (z : Value) (hz : ∀ w, (zeroValue E).run P w = .ok z w) :
    (execOp a.eval o).run P w = .ok (.value (.pointer (some ⟨w.heap.size, 0, none⟩))) (w.alloc (.cells z.cells E)) := by
  unfold execOp
  simp only [ho, Instr.alloc, newVar, newRow, Sem.run_bind, hz, Result.andThen_ok, newObj, Sem.run, Sem.run_pure]
  rfl
theorem ex_box {E : TypeId} {x : Operand} (ho : o.op = .box E x) :
    (execOp a.eval o).run P w = .ok (.value (.pointer (some ⟨w.heap.size, 0, none⟩))) (w.alloc (.cells (a.eval x).cells E)) := by
  unfold execOp
  simp only [ho, Instr.box, newVar, newRow, Sem.run_bind, newObj, Sem.run, Sem.run_pure, Result.andThen_ok]
  rfl

/-- a part of a slice, its elements one cell wide -/
theorem run_sl {T E : TypeId} (hu : P.underlying T = some (.slice E)) (hs : (P.info? E).map (·.size) = some 1) (a : Option Addr) (n cap : Nat) (lo hi : Option Value) (l h : Nat)
    (hlo : lo = some (.int .i64 l) ∨ (lo = none ∧ l = 0)) (hhi : hi = some (.int .i64 h) ∨ (hi = none ∧ h = n)) (h1 : l ≤ h) (h2 : h ≤ cap) (w : World) :
    (Instr.sliceAt T (.slice a n cap) lo hi none).run P w = .ok (.slice (slA a l cap) (h - l) (cap - l)) w := by
  cases hq : P.info? E with
  | none => simp [hq] at hs
  | some inf =>
    have hsz : inf.size = 1 := by simpa [hq] using hs
    have hb : (Instr.sliceBounds true n cap lo hi none).run P w = .ok (l, h, cap) w := by
      have b1 : ∀ code, (Instr.sliceBound (.int .i64 h) cap code).run P w = .ok h w := fun code => by
        rw [run_sliceBound w _ _ _ _ (by omega) (by omega)]; rfl
      have b2 : ∀ code, (Instr.sliceBound (.int .i64 l) h code).run P w = .ok l w := fun code => by
        rw [run_sliceBound w _ _ _ _ (by omega) (by omega)]; rfl
      rcases hlo with rfl | ⟨rfl, rfl⟩ <;> rcases hhi with rfl | ⟨rfl, rfl⟩ <;> simp [Instr.sliceBounds, Sem.run_bind, b1, b2]
    simp [Instr.sliceAt, Instr.slice, run_underlying hu, Sem.run_bind, hb, Go.sizeOf, typeInfo, hq, hsz, slA]
theorem ex_slice {T E : TypeId} {x : Operand} {lo hi : Option Operand} (ho : o.op = .slice T x lo hi none) (hu : P.underlying T = some (.slice E)) (hs : (P.info? E).map (·.size) = some 1) (ad : Option Addr) (n cap : Nat) (l h : Nat)
    (hx : a.eval x = .slice ad n cap) (hlo : lo.map a.eval = some (.int .i64 l) ∨ (lo.map a.eval = none ∧ l = 0)) (hhi : hi.map a.eval = some (.int .i64 h) ∨ (hi.map a.eval = none ∧ h = n)) (h1 : l ≤ h) (h2 : h ≤ cap) :
    (execOp a.eval o).run P w = .ok (.value (.slice (slA ad l cap) (h - l) (cap - l))) w := by
  unfold execOp
  simp only [ho, hx, Option.map_none, Sem.run_bind, run_sl hu hs ad n cap _ _ l h hlo hhi h1 h2 w, Result.andThen_ok]
  rfl
theorem eval_tmp {t : Tmp} {v : Value} (e : a.tmps[t]? = some v) : a.eval (.tmp t) = v := by simp [Act.eval, e]

/-- an element of an array's value, one cell wide -/
theorem ex_index1 {T E : TypeId} {x y : Operand} {k : IntKind} {len : Nat} (ho : o.op = .index T x y) (hu : P.underlying T = some (.array len E)) (hE : ∀ cs i v, cs[i]? = some v → (part E cs i).run P w = .ok v w)
    (hs : (P.info? E).map (·.size) = some 1) (vs : Array Value) (hx : a.eval x = .agg vs) (i : Int) (hy : a.eval y = .int k i) (h0 : 0 ≤ i) (hl : i < len) (v : Value) (hv : vs[i.toNat]? = some v) :
    (execOp a.eval o).run P w = .ok (.value v) w := by
  cases hq : P.info? E with
  | none => simp [hq] at hs
  | some inf =>
    have hsz : inf.size = 1 := by simpa [hq] using hs
    unfold execOp
    simp [ho, hx, hy, Instr.index, asIntOf, run_underlying hu, Sem.run_bind, h0, hl, Go.sizeOf, typeInfo, hq, hsz, hE vs i.toNat v hv]
end
end Suture
