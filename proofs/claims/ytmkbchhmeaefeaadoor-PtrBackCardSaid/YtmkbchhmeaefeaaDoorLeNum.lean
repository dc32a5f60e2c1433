/-
  THE PLAIN LAW OF NUMBERS AND THEIR BYTES (no Go, no program); and two operations on numbers of 64 bits.
  Conditions: none beyond each theorem's own.
-/
import Derived.Test.YtmkbchhmeaefeaaDoorBase
namespace Suture
open Go

/-- a number's bytes, the lowest first, as a number -/
def leNum : List (BitVec 8) → BitVec 64
  | [] => 0#64
  | b :: l => (leNum l <<< 8) ||| b.setWidth 64

theorem leNum_bit : ∀ (l : List (BitVec 8)) (i : Nat), i < 64 → (leNum l).getLsbD i = (l.getD (i / 8) 0#8).getLsbD (i % 8)
  | [], i, hi => by simp [leNum]
  | b :: l, i, hi => by
    simp only [leNum, BitVec.getLsbD_or, BitVec.getLsbD_shiftLeft, BitVec.getLsbD_setWidth]
    by_cases h8 : i < 8
    · have e1 : i / 8 = 0 := by omega
      have e2 : i % 8 = i := by omega
      simp [h8, hi, e1, e2]
    · have ih := leNum_bit l (i - 8) (by omega)
      have e1 : i / 8 = (i - 8) / 8 + 1 := by omega
      have e2 : i % 8 = (i - 8) % 8 := by omega
      have hb : b.getLsbD i = false := BitVec.getLsbD_of_ge _ _ (by omega)
      rw [e1, e2, List.getD_cons_succ, ← ih]
      simp [h8, hi, hb]

theorem leNum_bytes (n : BitVec 64) (m : Nat) (hn : ∀ i, 8 * m ≤ i → n.getLsbD i = false) (f : Nat → BitVec 8) (hf : ∀ k, f k = (n >>> (8 * k)).setWidth 8) : leNum ((List.range m).map f) = n := by
  apply BitVec.eq_of_getLsbD_eq
  intro i hi
  rw [leNum_bit _ i hi, List.getD_eq_getElem?_getD, List.getElem?_map]
  by_cases h : i / 8 < m
  · rw [List.getElem?_range h]
    simp only [Option.map_some, Option.getD_some, hf, BitVec.getLsbD_setWidth, BitVec.getLsbD_ushiftRight]
    rw [show 8 * (i / 8) + i % 8 = i by omega]
    have : decide (i % 8 < 8) = true := by simp; omega
    rw [this, Bool.true_and]
  · rw [List.getElem?_eq_none (by simp; omega), hn i (by omega)]
    simp
theorem high_false (n : BitVec 64) (m : Nat) (h : n.toNat < 2 ^ (8 * m)) : ∀ i, 8 * m ≤ i → n.getLsbD i = false := by
  intro i hi
  rw [BitVec.getLsbD]
  exact Nat.testBit_lt_two_pow (Nat.lt_of_lt_of_le h (Nat.pow_le_pow_right (by omega) hi))
theorem leNum_drop (l : List (BitVec 8)) (q : Nat) (h : q < l.length) : leNum (l.drop q) = (leNum (l.drop (q + 1)) <<< 8) ||| (l.getD q 0).setWidth 64 := by
  rw [List.drop_eq_getElem_cons h, leNum, List.getD_eq_getElem?_getD, List.getElem?_eq_getElem h]
  rfl

theorem binOp_shl_U8 (t : TypeId) (a : BitVec 64) : binOp .shl t (U a) (.int .u64 8) = pure (U (a <<< 8)) := by
  unfold U
  have h : IntKind.u64.wrap ((a.toNat : Int) * 2 ^ 8) = ((a <<< 8).toNat : Int) := by
    rw [IntKind.wrap_u64, BitVec.toNat_shiftLeft, Nat.shiftLeft_eq]
    omega
  rw [← h]
  rfl
theorem binOp_or_U (t : TypeId) (a b : BitVec 64) : binOp .or t (U a) (U b) = pure (U (a ||| b)) := by
  unfold U; rw [binOp_or, intBits_or]
  have := Go.u64_or_nat a.toNat b.toNat a.isLt b.isLt
  rw [this, BitVec.toNat_or]
end Suture
