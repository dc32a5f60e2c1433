/-
  SLICES OF ELEMENTS OF ANY WIDTH, read as cells; append out of any such slice, nil too (no program).
  Conditions: none beyond each theorem's own.
-/
import Derived.Test.YtmkbchhmeaefeaaDoorBoxes
import Derived.OwnWalk
import Derived.Deep.Upon
namespace Suture
open Go Go.RowKit Go.Proofs

/-- a slice of n elements, each 'size' cells wide, reads as these cells -/
def CellsAt (R : Nat → Prop) (w : World) (v : Value) (size n : Nat) (cs : List Value) : Prop :=
  ∃ a cap, v = .slice a n cap ∧ cs.length = n * size ∧ (n ≤ 9223372036854775807 ∧ n ≤ cap) ∧
    ∀ j u, cs[j]? = some u → ∃ b off, a = some ⟨b, off, none⟩ ∧ R b ∧ b < w.heap.size ∧ w.cell? ⟨b, off + j, none⟩ = some u

theorem CellsAt.agrees {R S : Nat → Prop} {w w' : World} {v : Value} {size n : Nat} {cs : List Value} (h : CellsAt R w v size n cs) (hag : Agrees S w w') (hS : ∀ b, R b → S b) : CellsAt R w' v size n cs := by
  obtain ⟨a, cap, hv, hn, hb, hc⟩ := h
  refine ⟨a, cap, hv, hn, hb, fun i x hx => ?_⟩
  obtain ⟨b, off, ha, hRb, hlt, hcell⟩ := hc i x hx
  exact ⟨b, off, ha, hRb, Nat.lt_of_lt_of_le hlt hag.size, (hag.cell (p := ⟨b, off + i, none⟩) hlt (hS b hRb)).trans hcell⟩
theorem CellsAt.mono {R S : Nat → Prop} {w : World} {v : Value} {size n : Nat} {cs : List Value} (h : CellsAt R w v size n cs) (hS : ∀ b, R b → S b) : CellsAt S w v size n cs := by
  obtain ⟨a, cap, hv, hn, hb, hc⟩ := h
  refine ⟨a, cap, hv, hn, hb, fun i x hx => ?_⟩
  obtain ⟨b, off, ha, hRb, hlt, hcell⟩ := hc i x hx
  exact ⟨b, off, ha, hS b hRb, hlt, hcell⟩
theorem cells_of_slice {R : Nat → Prop} {w : World} {v : Value} {xs : List Value} (h : SliceAt R w v xs) : CellsAt R w v 1 xs.length xs := by
  obtain ⟨a, n, cap, rfl, hn, hb, hc⟩ := h
  subst hn
  exact ⟨a, cap, rfl, by omega, hb, hc⟩
theorem cells_of_bytes {R : Nat → Prop} {w : World} {v : Value} {bs : List (BitVec 8)} (h : BytesAt R w v bs) : CellsAt R w v 1 bs.length (bs.map B) := by
  have := cells_of_slice h
  rwa [List.length_map] at this
theorem slice_of_cells {R : Nat → Prop} {w : World} {v : Value} {n : Nat} {cs : List Value} (h : CellsAt R w v 1 n cs) : SliceAt R w v cs := by
  obtain ⟨a, cap, rfl, hn, hb, hc⟩ := h
  exact ⟨a, n, cap, rfl, by omega, hb, hc⟩
theorem own_cells {W : World} {base : Nat} {e : TypeId} {v : Value} {size n : Nat} {xs : List Value} (h : W.ownsRow base e size v n xs) : CellsAt (fun b => base ≤ b) W v size n xs := by
  obtain ⟨h1, h2⟩ := h
  rcases h2 with ⟨rfl, rfl⟩ | ⟨g, cap, cur, rfl, hb, hg, hc, hm, hs, ht⟩
  · exact ⟨none, 0, rfl, h1, by omega, fun j u hu => by
      have : xs = [] := List.eq_nil_of_length_eq_zero (by simpa using h1)
      subst this; simp at hu⟩
  · refine ⟨_, cap, rfl, h1, by simp only [maxLen] at hm; omega, fun j x hx => ⟨g, 0, rfl, hb, (Array.getElem?_eq_some_iff.1 hg).1, ?_⟩⟩
    rw [Nat.zero_add, cell_of_row W g _ cur _ _ hg, ← Array.getElem?_toList]
    rw [← ht, List.getElem?_take] at hx
    split at hx
    · exact hx
    · cases hx

section
variable {P : Program} {w : World}

theorem src_of_cells {size n : Nat} {tx e' : TypeId} (hk : P.underlying tx = some (.slice e')) {x : Value} {news : List Value} (h : CellsAt All w x size n news) (hsz : 0 < size) (h1 : ∀ u ∈ news, u.oneCell' = true) : Src P size tx x n news w := by
  obtain ⟨a, cap, rfl, hn, hb, hc⟩ := h
  cases a with
  | none =>
    have hnil : news = [] := by
      cases news with
      | nil => rfl
      | cons u l => obtain ⟨b, off, h, _⟩ := hc 0 u rfl; cases h
    subst hnil
    have h0 : n = 0 := by
      rcases Nat.eq_zero_or_pos n with h | h
      · exact h
      · have := Nat.mul_pos h hsz; simp at hn; omega
    subst h0
    exact Src.ofNil w hk cap
  | some ad =>
    refine Src.ofSlice w hk ad n cap news hn (fun j u hu => ?_) h1
    obtain ⟨b, off, hab, _, _, hcell⟩ := hc j u hu
    obtain rfl := Option.some.inj hab
    rw [addr_add]; exact hcell

theorem run_append_from (base : Nat) (t ty e : TypeId) (i : TypeInfo) (z : Value) (size bytes : Nat) (ht : P.underlying t = some (.slice e)) (hi : P.info? e = some i) (hz : i.zero = some z)
    (hsize : i.size = size) (hby : i.bytes = bytes) (hzs : z.cells.size = size) (hsz : 0 < size) (v : Value) (n : Nat) (xs : List Value) (hown : w.ownsRow base e size v n xs) (x : Value) (m : Nat) (news : List Value)
    (hx : CellsAt All w x size m news) (h1 : ∀ u ∈ news, u.oneCell' = true) (h63 : n + m ≤ maxLen) (hbytes : (n + m) * bytes ≤ 140737488355328) (hbase : base ≤ w.heap.size) :
    ∃ v' w', (Builtin.append_ #[t, t] ty #[v, x]).run P w = .ok v' w' ∧ w'.ownsRow base e size v' (n + m) (xs ++ news) ∧ w.grownBy w' v.ownBlock := by
  by_cases hm : m = 0
  · subst hm
    have hnil : news = [] := by
      obtain ⟨a, cap, _, hn, _, _⟩ := hx
      exact List.eq_nil_of_length_eq_zero (by simpa using hn)
    subst hnil
    have hs := src_of_cells (P := P) ht hx hsz h1
    have hrun : (Builtin.append_ #[t, t] ty #[v, x]).run P w = .ok v w := by
      rcases hown.2 with ⟨rfl, rfl⟩ | ⟨g, cap, cur, rfl, _, _, hc, _⟩
      · exact run_append_nothing w t t ty e i ht hi none 0 0 (Nat.le_refl _) x (by rw [hsize]; exact hs)
      · exact run_append_nothing w t t ty e i ht hi _ n cap hc x (by rw [hsize]; exact hs)
    exact ⟨v, w, hrun, by simpa using hown, World.grownBy.refl _ _⟩
  · obtain ⟨a, cap, rfl, hn, hb, hc⟩ := hx
    have hpos : 0 < news.length := by rw [hn]; exact Nat.mul_pos (by omega) hsz
    obtain ⟨b, off, rfl, _⟩ := hc 0 news[0] (List.getElem?_eq_getElem hpos)
    obtain ⟨v', w', r1, r2, r3, _⟩ := run_append_own w base t ty e i z size bytes ht hi hz hsize hby hzs hsz v n xs hown ⟨b, off, none⟩ m cap news hn (fun j u hu => by
      obtain ⟨b', off', he, _, _, hcell⟩ := hc j u hu
      cases he
      rw [addr_add]; exact hcell) h1 h63 hbytes hbase
    exact ⟨v', w', r1, r2, r3⟩
theorem ex_app {o : Oper} {a : Act} {w' : World} {s x : Operand} {t : TypeId} {vs vx v' : Value} (ho : o.op = .call { callee := .builtin .append, args := #[s, x], argTypes := #[t, t] }) (es : a.eval s = vs) (ex : a.eval x = vx)
    (h : ∀ ty, (Builtin.append_ #[t, t] ty #[vs, vx]).run P w = .ok v' w') : (execOp a.eval o).run P w = .ok (.value v') w' := by
  simp [execOp, ho, resolve, invoke, builtin, es, ex, h]
theorem wpList_append_from {ops : Array Oper} {rest : List Oper} {o : Oper} {a : Act} {Q : Exit → Act → World → Prop} (hw : Region.wanted o (yielded ops a.tmps) = true) (s y : Operand) (t : TypeId)
    (ho : o.op = .call { callee := .builtin .append, args := #[s, y], argTypes := #[t, t] })
    (base : Nat) (e : TypeId) (i : TypeInfo) (z : Value) (size bytes : Nat) (ht : P.underlying t = some (.slice e)) (hi : P.info? e = some i) (hz : i.zero = some z)
    (hsize : i.size = size) (hby : i.bytes = bytes) (hzs : z.cells.size = size) (hsz : 0 < size) (v : Value) (n : Nat) (xs : List Value) (hs : a.eval s = v) (hown : w.ownsRow base e size v n xs) (x : Value) (m : Nat) (news : List Value)
    (hy : a.eval y = x) (hx : CellsAt All w x size m news) (h1 : ∀ u ∈ news, u.oneCell' = true) (h63 : n + m ≤ maxLen) (hbytes : (n + m) * bytes ≤ 140737488355328) (hbase : base ≤ w.heap.size)
    (h : ∀ v' w', w'.ownsRow base e size v' (n + m) (xs ++ news) → w.grownBy w' v.ownBlock → wpList P ops Q rest (a.put o.dst v') w') : wpList P ops Q (o :: rest) a w := by
  obtain ⟨v', w', r1, r2, r3⟩ := run_append_from (P := P) base t o.type e i z size bytes ht hi hz hsize hby hzs hsz v n xs hown x m news hx h1 h63 hbytes hbase
  have hrun : (execOp a.eval o).run P w = .ok (.value v') w' := by simp [execOp, ho, resolve, invoke, builtin, hs, hy, r1]
  exact wpList_val hw hrun (h v' w' r2 r3)
/-- what an append leaves of what was there: all but the row that it grows -/
theorem Agrees.grown' {R : Nat → Prop} {A W W' : World} {row : Option Nat} (h : Agrees R A W) (g : W.grownBy W' row) (hr : ∀ b, row = some b → A.heap.size ≤ b ∨ ¬ R b) : Agrees R A W' :=
  ⟨g.os.trans h.os, g.tape.trans h.tape, g.output.trans h.output, Nat.le_trans h.size g.size, fun b hb hR =>
    (g.block b (Nat.lt_of_lt_of_le hb h.size) (fun e => by rcases hr b e.symm with h' | h' <;> first | omega | exact h' hR)).trans (h.block b hb hR)⟩
end
end Suture
