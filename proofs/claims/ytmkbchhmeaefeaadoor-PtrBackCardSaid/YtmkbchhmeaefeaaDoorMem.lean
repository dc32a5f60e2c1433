/-
  WHAT A SLICE READS AS (no program).
  Conditions: none beyond each theorem's own.
-/
import Derived.Test.YtmkbchhmeaefeaaDoorBase
import Derived.Test.YtmkbchhmeaefeaaDoorIter
namespace Suture
open Go Go.RowKit

/-- a slice of one-cell elements reads as xs; its block is one of R -/
def SliceAt (R : Nat → Prop) (w : World) (v : Value) (xs : List Value) : Prop :=
  ∃ a n cap, v = .slice a n cap ∧ xs.length = n ∧ (n ≤ 9223372036854775807 ∧ n ≤ cap) ∧
    ∀ i x, xs[i]? = some x → ∃ b off, a = some ⟨b, off, none⟩ ∧ R b ∧ b < w.heap.size ∧ w.cell? ⟨b, off + i, none⟩ = some x

theorem SliceAt.agrees {R S : Nat → Prop} {w w' : World} {v : Value} {xs : List Value} (h : SliceAt R w v xs) (hag : Agrees S w w') (hS : ∀ b, R b → S b) : SliceAt R w' v xs := by
  obtain ⟨a, n, cap, hv, hn, hb, hc⟩ := h
  refine ⟨a, n, cap, hv, hn, hb, fun i x hx => ?_⟩
  obtain ⟨b, off, ha, hRb, hlt, hcell⟩ := hc i x hx
  exact ⟨b, off, ha, hRb, Nat.lt_of_lt_of_le hlt hag.size, (hag.cell (p := ⟨b, off + i, none⟩) hlt (hS b hRb)).trans hcell⟩
theorem SliceAt.mono {R S : Nat → Prop} {w : World} {v : Value} {xs : List Value} (h : SliceAt R w v xs) (hS : ∀ b, R b → S b) : SliceAt S w v xs := by
  obtain ⟨a, n, cap, hv, hn, hb, hc⟩ := h
  refine ⟨a, n, cap, hv, hn, hb, fun i x hx => ?_⟩
  obtain ⟨b, off, ha, hRb, hlt, hcell⟩ := hc i x hx
  exact ⟨b, off, ha, hS b hRb, hlt, hcell⟩

theorem SliceAt.bound {R : Nat → Prop} {w : World} {v : Value} {xs : List Value} (h : SliceAt R w v xs) : SliceAt (fun b => b < w.heap.size) w v xs := by
  obtain ⟨a, n, cap, hv, hn, hb, hc⟩ := h
  refine ⟨a, n, cap, hv, hn, hb, fun i x hx => ?_⟩
  obtain ⟨b, off, ha, _, hlt, hcell⟩ := hc i x hx
  exact ⟨b, off, ha, hlt, hlt, hcell⟩

/-- a slice of bytes -/
def BytesAt (R : Nat → Prop) (w : World) (v : Value) (bs : List (BitVec 8)) : Prop := SliceAt R w v (bs.map B)
/-- a slice of slices of bytes -/
def PartsAt (R : Nat → Prop) (w : World) (v : Value) (parts : List (List (BitVec 8))) : Prop :=
  ∃ vs : List Value, SliceAt R w v vs ∧ vs.length = parts.length ∧ ∀ (i : Nat) (x : Value) (p : List (BitVec 8)), vs[i]? = some x → parts[i]? = some p → BytesAt R w x p

theorem BytesAt.agrees {R S : Nat → Prop} {w w' : World} {v : Value} {xs : List (BitVec 8)} (h : BytesAt R w v xs) (hag : Agrees S w w') (hS : ∀ b, R b → S b) : BytesAt R w' v xs :=
  SliceAt.agrees h hag hS
theorem PartsAt.agrees {R S : Nat → Prop} {w w' : World} {v : Value} {xs : List (List (BitVec 8))} (h : PartsAt R w v xs) (hag : Agrees S w w') (hS : ∀ b, R b → S b) : PartsAt R w' v xs := by
  obtain ⟨vs, h1, h2, h3⟩ := h
  exact ⟨vs, h1.agrees hag hS, h2, fun i x p hx hp => (h3 i x p hx hp).agrees hag hS⟩
theorem PartsAt.mono {R S : Nat → Prop} {w : World} {v : Value} {xs : List (List (BitVec 8))} (h : PartsAt R w v xs) (hS : ∀ b, R b → S b) : PartsAt S w v xs := by
  obtain ⟨vs, h1, h2, h3⟩ := h
  exact ⟨vs, h1.mono hS, h2, fun i x p hx hp => SliceAt.mono (h3 i x p hx hp) hS⟩

/-- the walk's own words at a place: an element's cell -/
theorem BytesAt.at {R : Nat → Prop} {w : World} {a : Option Addr} {n cap : Nat} {bs : List (BitVec 8)} (h : BytesAt R w (.slice a n cap) bs) :
    bs.length = n ∧ n ≤ 9223372036854775807 ∧ ∀ i, i < n → ∃ b off, a = some ⟨b, off, none⟩ ∧ R b ∧ b < w.heap.size ∧ w.cell? ⟨b, off + i, none⟩ = some (B (bs.getD i 0)) := by
  obtain ⟨a', n', cap', hv, hn, hb, hc⟩ := h
  cases hv
  rw [List.length_map] at hn
  refine ⟨hn, hb.1, fun i hi => ?_⟩
  obtain ⟨b, off, ha, hRb, hlt, hcell⟩ := hc i (B (bs.getD i 0)) (by rw [List.getElem?_map, List.getD_eq_getElem?_getD, List.getElem?_eq_getElem (by omega)]; rfl)
  exact ⟨b, off, ha, hRb, hlt, hcell⟩
theorem PartsAt.at {R : Nat → Prop} {w : World} {a : Option Addr} {n cap : Nat} {parts : List (List (BitVec 8))} (h : PartsAt R w (.slice a n cap) parts) :
    parts.length = n ∧ n ≤ 9223372036854775807 ∧ ∀ i, i < n → ∃ b off a' n' cap', a = some ⟨b, off, none⟩ ∧ R b ∧ b < w.heap.size ∧ w.cell? ⟨b, off + i, none⟩ = some (.slice a' n' cap') ∧ BytesAt R w (.slice a' n' cap') (parts.getD i []) := by
  obtain ⟨vs, ⟨a', n', cap', hv, hn, hb, hc⟩, hlen, hp⟩ := h
  cases hv
  refine ⟨by omega, hb.1, fun i hi => ?_⟩
  have h1 : vs[i]? = some (vs.getD i undef) := by rw [List.getD_eq_getElem?_getD, List.getElem?_eq_getElem (by omega)]; rfl
  have h2 : parts[i]? = some (parts.getD i []) := by rw [List.getD_eq_getElem?_getD, List.getElem?_eq_getElem (by omega)]; rfl
  obtain ⟨b, off, ha, hRb, hlt, hcell⟩ := hc i _ h1
  have hB := hp i _ _ h1 h2
  obtain ⟨a2, n2, c2, he, _⟩ := hB
  have hB := hp i _ _ h1 h2
  rw [he] at hB hcell
  exact ⟨b, off, a2, n2, c2, ha, hRb, hlt, hcell, hB⟩

theorem BytesAt.cap {R : Nat → Prop} {w : World} {a : Option Addr} {n cap : Nat} {bs : List (BitVec 8)} (h : BytesAt R w (.slice a n cap) bs) : n ≤ cap := by
  obtain ⟨a', n', cap', hv, hn, hb, hc⟩ := h
  cases hv
  exact hb.2
theorem BytesAt.len {R : Nat → Prop} {w : World} {a : Option Addr} {n cap : Nat} {bs : List (BitVec 8)} (h : BytesAt R w (.slice a n cap) bs) : bs.length = n := h.at.1

theorem BytesAt.bound {R : Nat → Prop} {w : World} {v : Value} {bs : List (BitVec 8)} (h : BytesAt R w v bs) : BytesAt (fun b => b < w.heap.size) w v bs := SliceAt.bound h

/-- the address of a slice's part -/
def slA (a : Option Addr) (l cap : Nat) : Option Addr := if cap = l then a else a.map (·.add l)
theorem BytesAt.slice {R : Nat → Prop} {w : World} {a : Option Addr} {n cap : Nat} {bs : List (BitVec 8)} (h : BytesAt R w (.slice a n cap) bs) (l u : Nat) (h1 : l ≤ u) (h2 : u ≤ n) :
    BytesAt R w (.slice (slA a l cap) (u - l) (cap - l)) ((bs.drop l).take (u - l)) := by
  obtain ⟨a', n', cap', hv, hn, hb, hc⟩ := h
  cases hv
  rw [List.length_map] at hn
  refine ⟨_, _, _, rfl, by simp; omega, by omega, fun i x hx => ?_⟩
  have hi : i < u - l := by
    have := (List.getElem?_eq_some_iff.1 hx).1
    simp at this; omega
  rw [List.getElem?_map, List.getElem?_take_of_lt hi, List.getElem?_drop, ← List.getElem?_map] at hx
  obtain ⟨b, off, ha, hRb, hlt, hcell⟩ := hc _ x hx
  subst ha
  refine ⟨b, off + l, ?_, hRb, hlt, by rw [Nat.add_assoc]; exact hcell⟩
  unfold slA
  rw [if_neg (by omega)]
  show some ((⟨b, off, none⟩ : Addr).add l) = _
  congr 1
  unfold Addr.add
  split <;> simp_all

theorem flat_take_succ {α : Type} (parts : List (List α)) (i : Nat) (h : i < parts.length) :
    (parts.take (i + 1)).flatten.length = (parts.take i).flatten.length + (parts.getD i []).length := by
  rw [List.take_succ_eq_append_getElem h, List.flatten_append, List.length_append]
  simp [List.getD_eq_getElem?_getD, List.getElem?_eq_getElem h]
theorem flat_get {α : Type} (d : α) (parts : List (List α)) (i j : Nat) (h : i < parts.length) (hj : j < (parts.getD i []).length) :
    parts.flatten.getD ((parts.take i).flatten.length + j) d = (parts.getD i []).getD j d := by
  have e : parts.getD i [] = parts[i] := by rw [List.getD_eq_getElem?_getD, List.getElem?_eq_getElem h]; rfl
  rw [e] at hj ⊢
  have e2 : parts.flatten = (parts.take i).flatten ++ (parts[i] ++ (parts.drop (i + 1)).flatten) := by
    have e3 : parts = parts.take i ++ parts[i] :: parts.drop (i + 1) := by rw [List.getElem_cons_drop, List.take_append_drop]
    have := congrArg List.flatten e3
    rwa [List.flatten_append, List.flatten_cons] at this
  rw [e2, List.getD_eq_getElem?_getD, List.getElem?_append_right (by omega), Nat.add_sub_cancel_left, List.getElem?_append_left hj, ← List.getD_eq_getElem?_getD]
theorem flat_take_le {α : Type} (parts : List (List α)) (i : Nat) (h : i < parts.length) : (parts.take i).flatten.length + (parts.getD i []).length ≤ parts.flatten.length := by
  rw [← flat_take_succ parts i h]
  have : parts.flatten = (parts.take (i + 1)).flatten ++ (parts.drop (i + 1)).flatten := by rw [← List.flatten_append, List.take_append_drop]
  rw [this, List.length_append]; omega
end Suture
