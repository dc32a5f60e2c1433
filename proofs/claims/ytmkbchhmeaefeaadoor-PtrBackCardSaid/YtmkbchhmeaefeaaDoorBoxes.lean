/-
  A REGION's NEW BLOCKS (no program): for a plan: which blocks its operations have made so far, and what they hold.
  Conditions: none beyond each theorem's own.
-/
import Derived.Test.YtmkbchhmeaefeaaDoorEq
namespace Suture
open Go Go.RowKit

/-- a whole block written over -/
theorem ex_storeAll {P : Program} {o : Oper} {a : Act} {w : World} {ty t : TypeId} {x y : Operand} {n : Nat} (ho : o.op = .store ty x y) (hi : (P.info? ty).map (·.size) = some n) (b : Nat) (hx : a.eval x = .pointer (some ⟨b, 0, none⟩)) (vs cur : Array Value) (hy : a.eval y = .agg vs)
    (hn : vs.size = n) (hg : w.heap[b]? = some (.cells cur t (0, 0))) (hc : cur.size = n) (h1 : ∀ v ∈ vs, v.oneCell' = true) : (execOp a.eval o).run P w = .ok .skip (w.setRow b vs) := by
  have h := ex_store (P := P) (w := w) ho hi b 0 hx vs cur hy hn hg (by omega) h1
  have e := setRow_all w b vs cur (by omega)
  rw [hn] at e
  rw [e] at h
  exact h

/-- a block that operation i makes (holding c0) and operation s writes over with c1 -/
structure Box where
  i : Nat
  s : Nat
  t : TypeId
  c0 : Array Value
  c1 : Array Value

def Box.now (x : Box) (L : Nat → Bool) : Array Value := if L x.s = true then x.c1 else x.c0

structure Boxed (W0 : World) (bs : List Box) (L : Nat → Bool) (vals : Nat → Value) (W : World) : Prop where
  ag : Agrees All W0 W
  row : ∀ x ∈ bs, L x.i = true → ∃ b, vals x.i = .pointer (some ⟨b, 0, none⟩) ∧ W0.heap.size ≤ b ∧ W.heap[b]? = some (.cells (x.now L) x.t (0, 0))
  ne : ∀ x ∈ bs, ∀ y ∈ bs, x.i ≠ y.i → L x.i = true → L y.i = true → vals x.i ≠ vals y.i

theorem Boxed.start {W0 : World} {bs : List Box} {vals : Nat → Value} : Boxed W0 bs (fun _ => false) vals W0 :=
  ⟨Agrees.refl _ _, (fun _ _ h => by cases h), (fun _ _ _ _ _ h => by cases h)⟩
theorem Boxed.mono {W0 : World} {bs : List Box} {L : Nat → Bool} {vals : Nat → Value} {W W' : World} (h : Boxed W0 bs L vals W) (g : Agrees All W W') : Boxed W0 bs L vals W' :=
  ⟨h.ag.trans g, fun x hx hL => by
    obtain ⟨b, h1, h2, h3⟩ := h.row x hx hL
    exact ⟨b, h1, h2, (g.block b (Array.getElem?_eq_some_iff.1 h3).1 trivial).trans h3⟩, h.ne⟩
def Box.free (bs : List Box) (i : Nat) : Bool := bs.all fun x => x.i != i && x.s != i
theorem Boxed.other {W0 : World} {bs : List Box} {L : Nat → Bool} {vals : Nat → Value} {W : World} (h : Boxed W0 bs L vals W) {i : Nat} (hi : Box.free bs i = true) (v : Value) : Boxed W0 bs (setL L i) (updV vals i v) W := by
  have hf : ∀ x ∈ bs, x.i ≠ i ∧ x.s ≠ i := fun x hx => by
    have := List.all_eq_true.1 hi x hx
    simpa using this
  have hLi : ∀ x ∈ bs, setL L i x.i = L x.i := fun x hx => by unfold setL; rw [if_neg (hf x hx).1]
  have hLs : ∀ x ∈ bs, setL L i x.s = L x.s := fun x hx => by unfold setL; rw [if_neg (hf x hx).2]
  have hv : ∀ x ∈ bs, updV vals i v x.i = vals x.i := fun x hx => by unfold updV; rw [if_neg (hf x hx).1]
  refine ⟨h.ag, fun x hx hL => ?_, fun x hx y hy hne h1 h2 => ?_⟩
  · rw [hLi x hx] at hL
    obtain ⟨b, h1, h2, h3⟩ := h.row x hx hL
    refine ⟨b, (hv x hx).trans h1, h2, ?_⟩
    unfold Box.now at h3 ⊢
    rw [hLs x hx]; exact h3
  · rw [hLi x hx] at h1
    rw [hLi y hy] at h2
    rw [hv x hx, hv y hy]
    exact h.ne x hx y hy hne h1 h2
/-- operations that make blocks, and those that write, are all unlike -/
def Box.apart (bs : List Box) : Bool := bs.all fun x => bs.all fun y => x.i != y.s
theorem Boxed.alloc {W0 : World} {bs : List Box} {L : Nat → Bool} {vals : Nat → Value} {W : World} (h : Boxed W0 bs L vals W) (hap : Box.apart bs = true) {x : Box} (hx : x ∈ bs) (hu : ∀ y ∈ bs, y.i = x.i → y = x) (hs : L x.s = false) (hi : L x.i = false) :
    Boxed W0 bs (setL L x.i) (updV vals x.i (.pointer (some ⟨W.heap.size, 0, none⟩))) (W.alloc (.cells x.c0 x.t)) := by
  have hap' : ∀ x ∈ bs, ∀ y ∈ bs, x.i ≠ y.s := fun x hx y hy => by
    have := List.all_eq_true.1 (List.all_eq_true.1 hap x hx) y hy
    simpa using this
  have hsz := h.ag.size
  have hold : ∀ y ∈ bs, y.i ≠ x.i → L y.i = true → ∃ b, vals y.i = .pointer (some ⟨b, 0, none⟩) ∧ W0.heap.size ≤ b ∧ b < W.heap.size ∧ (W.alloc (.cells x.c0 x.t)).heap[b]? = some (.cells (y.now L) y.t (0, 0)) := fun y hy hne hL => by
    obtain ⟨b, h1, h2, h3⟩ := h.row y hy hL
    have hb := (Array.getElem?_eq_some_iff.1 h3).1
    exact ⟨b, h1, h2, hb, (Below.heap_alloc W _ b hb).trans h3⟩
  have hnow : ∀ y ∈ bs, y.now (setL L x.i) = y.now L := fun y hy => by
    have hsl : setL L x.i y.s = L y.s := by unfold setL; rw [if_neg (fun e => hap' x hx y hy e.symm)]
    unfold Box.now
    rw [hsl]
  refine ⟨h.ag.alloc _, fun y hy hL => ?_, fun y hy z hz hne h1 h2 => ?_⟩
  · rw [hnow y hy]
    by_cases he : y.i = x.i
    · obtain rfl := hu y hy he
      refine ⟨W.heap.size, by simp [updV], hsz, ?_⟩
      rw [World.alloc_heap_new]
      unfold Box.now
      rw [hs]; rfl
    · have hL' : L y.i = true := by unfold setL at hL; rwa [if_neg he] at hL
      obtain ⟨b, h1, h2, _, h3⟩ := hold y hy he hL'
      exact ⟨b, by unfold updV; rw [if_neg he]; exact h1, h2, h3⟩
  · by_cases he : y.i = x.i
    · have hz' : z.i ≠ x.i := fun e => hne (he.trans e.symm)
      have hL' : L z.i = true := by unfold setL at h2; rwa [if_neg hz'] at h2
      obtain ⟨b, g1, _, g2, _⟩ := hold z hz hz' hL'
      unfold updV
      rw [if_pos he, if_neg hz', g1]
      intro e
      simp at e
    · have hL' : L y.i = true := by unfold setL at h1; rwa [if_neg he] at h1
      obtain ⟨b, g1, _, g2, _⟩ := hold y hy he hL'
      by_cases he2 : z.i = x.i
      · unfold updV
        rw [if_neg he, if_pos he2, g1]
        intro e
        simp at e
      · have hL2 : L z.i = true := by unfold setL at h2; rwa [if_neg he2] at h2
        unfold updV
        rw [if_neg he, if_neg he2]
        exact h.ne y hy z hz hne hL' hL2
theorem Boxed.store {W0 : World} {bs : List Box} {L : Nat → Bool} {vals : Nat → Value} {W : World} (h : Boxed W0 bs L vals W) (hap : Box.apart bs = true) {x : Box} (hx : x ∈ bs) (hu : ∀ y ∈ bs, y.i = x.i → y = x) (hus : ∀ y ∈ bs, y.s = x.s → y = x) (hi : L x.i = true)
    {b : Nat} (hb : vals x.i = .pointer (some ⟨b, 0, none⟩)) : Boxed W0 bs (setL L x.s) (updV vals x.s undef) (W.setRow b x.c1) := by
  have hap' : ∀ x ∈ bs, ∀ y ∈ bs, x.i ≠ y.s := fun x hx y hy => by
    have := List.all_eq_true.1 (List.all_eq_true.1 hap x hx) y hy
    simpa using this
  obtain ⟨b', hb', hlo, hrow⟩ := h.row x hx hi
  have e : b' = b := by rw [hb] at hb'; simp at hb'; exact hb'.symm
  subst e
  have hLi : ∀ y ∈ bs, setL L x.s y.i = L y.i := fun y hy => by unfold setL; rw [if_neg (hap' y hy x hx)]
  have hv : ∀ y ∈ bs, updV vals x.s undef y.i = vals y.i := fun y hy => by unfold updV; rw [if_neg (hap' y hy x hx)]
  refine ⟨h.ag.setRow (.inr hlo) _, fun y hy hL => ?_, fun y hy z hz hne h1 h2 => ?_⟩
  · rw [hLi y hy] at hL
    rw [hv y hy]
    by_cases he : y.i = x.i
    · obtain rfl := hu y hy he
      refine ⟨b', hb', hlo, ?_⟩
      rw [setRow_heap _ _ _ _ _ _ hrow]
      unfold Box.now setL
      rw [if_pos rfl]; rfl
    · obtain ⟨c, h1, h2, h3⟩ := h.row y hy hL
      have hne : c ≠ b' := fun e => h.ne y hy x hx he hL hi (by rw [h1, hb', e])
      refine ⟨c, h1, h2, ?_⟩
      rw [setRow_other W b' c _ hne, h3]
      have hsl : setL L x.s y.s = L y.s := by unfold setL; rw [if_neg (fun e => he (by rw [hus y hy e]))]
      unfold Box.now
      rw [hsl]
  · rw [hLi y hy] at h1
    rw [hLi z hz] at h2
    rw [hv y hy, hv z hz]
    exact h.ne y hy z hz hne h1 h2
end Suture
