/-
  WORDS FOR THE WALKS (no program): unsigned numbers as values, by bit vectors.
  Conditions: none beyond each theorem's own.
-/
import Derived.WalkKit
import Derived.WalkSpells
import Derived.WalkLawsBesides
import Derived.KernelRfl
import Derived.Deep.LoopGhost
import Derived.Laws.BitsAllLaws
import Derived.Test.YtmkbchhmeaefeaaDoorPoly
namespace Suture
open Go Go.RowKit

/-- a uint64 -/
def U (c : BitVec 64) : Value := .int .u64 (c.toNat : Int)
/-- a byte -/
def B (b : BitVec 8) : Value := .int .u8 (b.toNat : Int)

section
variable {P : Program} (w : World)

@[go_sem ↓] theorem U_cells (c : BitVec 64) : (U c).cells = #[U c] := rfl
@[go_sem ↓] theorem B_cells (c : BitVec 8) : (B c).cells = #[B c] := rfl
@[go_sem] theorem U_match {β : Type} (c : BitVec 64) (f : Array Value → β) (g : Value → β) : Value.cells.match_1 (fun _ => β) (U c) f g = g (U c) := rfl
@[go_sem] theorem B_match {β : Type} (c : BitVec 8) (f : Array Value → β) (g : Value → β) : Value.cells.match_1 (fun _ => β) (B c) f g = g (B c) := rfl
@[go_sem] theorem run_store_U (a : Addr) (m : Mode) (c : BitVec 64) : (store a (U c) m).run P w = stored P w a (U c) m := run_store P w a _ m rfl
@[go_sem] theorem run_store_B (a : Addr) (m : Mode) (c : BitVec 8) : (store a (B c) m).run P w = stored P w a (B c) m := run_store P w a _ m rfl
@[go_sem] theorem eqGuard_U (op : BinOp) (t : TypeId) (x y : Operand) (c : BitVec 64) (b : Value) : eqGuard op t x y (U c) b = pure () := by
  unfold eqGuard U; cases op <;> rfl
@[go_sem] theorem eqGuard_B (op : BinOp) (t : TypeId) (x y : Operand) (c : BitVec 8) (b : Value) : eqGuard op t x y (B c) b = pure () := by
  unfold eqGuard B; cases op <;> rfl
theorem run_pure' {α : Type} (x : α) (P : Program) (w : World) : (pure x : Sem α).run P w = .ok x w := rfl

theorem wrap_u64_nat (n : Nat) (h : n < 18446744073709551616) : IntKind.u64.wrap (n : Int) = n := by
  rw [IntKind.wrap_u64]; omega
theorem wrap_u8_nat (n : Nat) (h : n < 256) : IntKind.u8.wrap (n : Int) = n := by
  rw [IntKind.wrap_u8]; omega

theorem bits_xor_U (a b : BitVec 64) : bits .xor .u64 (a.toNat : Int) (b.toNat : Int) = ((a ^^^ b).toNat : Int) := by
  have := Go.u64_xor_nat a.toNat b.toNat a.isLt b.isLt
  rw [this, BitVec.toNat_xor]
theorem bits_xor_B (a b : BitVec 8) : bits .xor .u8 (a.toNat : Int) (b.toNat : Int) = ((a ^^^ b).toNat : Int) := by
  have := Go.u8_xor_nat a.toNat b.toNat a.isLt b.isLt
  rw [this, BitVec.toNat_xor]

theorem beq_toNat {n : Nat} (a b : BitVec n) : ((a.toNat : Int) == (b.toNat : Int)) = (a == b) := by
  by_cases h : a = b
  · subst h; simp
  · have h1 : a.toNat ≠ b.toNat := fun e => h (BitVec.eq_of_toNat_eq e)
    have h2 : ((a.toNat : Int)) ≠ (b.toNat : Int) := by omega
    rw [beq_eq_false_iff_ne.2 h, beq_eq_false_iff_ne.2 h2]
theorem bne_toNat {n : Nat} (a b : BitVec n) : ((a.toNat : Int) != (b.toNat : Int)) = (a != b) := by
  unfold bne; rw [beq_toNat]

@[go_sem] theorem binOp_xor_U (t : TypeId) (a b : BitVec 64) : binOp .xor t (U a) (U b) = pure (U (a ^^^ b)) := by
  unfold U; rw [binOp_xor, intBits_xor, bits_xor_U]
@[go_sem] theorem binOp_xor_B (t : TypeId) (a b : BitVec 8) : binOp .xor t (B a) (B b) = pure (B (a ^^^ b)) := by
  unfold B; rw [binOp_xor, intBits_xor, bits_xor_B]
@[go_sem] theorem binOp_eql_U (t : TypeId) (a b : BitVec 64) : binOp .eql t (U a) (U b) = pure (.bool (a == b)) := by
  unfold U; rw [binOp_eql, beq_toNat]
@[go_sem] theorem binOp_neq_U (t : TypeId) (a b : BitVec 64) : binOp .neq t (U a) (U b) = pure (.bool (a != b)) := by
  unfold U; rw [binOp_neq, bne_toNat]
@[go_sem] theorem binOp_eql_B (t : TypeId) (a b : BitVec 8) : binOp .eql t (B a) (B b) = pure (.bool (a == b)) := by
  unfold B; rw [binOp_eql, beq_toNat]
@[go_sem] theorem binOp_neq_B (t : TypeId) (a b : BitVec 8) : binOp .neq t (B a) (B b) = pure (.bool (a != b)) := by
  unfold B; rw [binOp_neq, bne_toNat]

theorem shr_U (a : BitVec 64) (n : Nat) : (a.toNat : Int) / 2 ^ n = ((a >>> n).toNat : Int) := by
  rw [BitVec.toNat_ushiftRight, Nat.shiftRight_eq_div_pow]
  norm_cast
@[go_sem] theorem binOp_shr_U1 (t : TypeId) (a : BitVec 64) : binOp .shr t (U a) (.int .u64 1) = pure (U (a >>> 1)) := by
  unfold U; rw [binOp_shr, shift_shr_u64 _ _ _ (by decide) (by decide)]
  rw [show (1 : Int).toNat = 1 from rfl, shr_U]
@[go_sem] theorem binOp_shr_U8 (t : TypeId) (a : BitVec 64) : binOp .shr t (U a) (.int .u64 8) = pure (U (a >>> 8)) := by
  unfold U; rw [binOp_shr, shift_shr_u64 _ _ _ (by decide) (by decide)]
  rw [show (8 : Int).toNat = 8 from rfl, shr_U]
@[go_sem] theorem binOp_and_U1 (t : TypeId) (a : BitVec 64) : binOp .and t (U a) (.int .u64 1) = pure (U (a &&& 1#64)) := by
  unfold U; rw [binOp_and, intBits_and]
  have := Go.u64_and_nat a.toNat 1 a.isLt (by decide)
  rw [show ((1 : Nat) : Int) = 1 from rfl] at this
  rw [this, BitVec.toNat_and]; rfl
@[go_sem] theorem binOp_mul_poly (t : TypeId) (a : BitVec 64) : binOp .mul t (.int .u64 14514072000185962306) (U a) = pure (U (poly * a)) := by
  unfold U; rw [binOp_mul]
  simp only [Op.intArith]
  have e : poly.toNat = 14514072000185962306 := by decide
  have h : IntKind.u64.wrap (14514072000185962306 * (a.toNat : Int)) = ((poly * a).toNat : Int) := by
    rw [IntKind.wrap_u64, BitVec.toNat_mul, e, show (2 : Nat) ^ 64 = 18446744073709551616 from rfl]
    omega
  rw [← h]
@[go_sem] theorem unary_xor_U (a : BitVec 64) : Op.unary .xor (U a) = pure (U (~~~a)) := by
  unfold U
  rw [unary_xor, intBits_xor]
  have e : (if IntKind.u64.signed = true then (-1 : Int) else IntKind.u64.max) = ((18446744073709551615 : Nat) : Int) := by decide
  rw [e]
  have := Go.u64_xor_nat 18446744073709551615 a.toNat (by decide) a.isLt
  have h : (~~~a) = BitVec.allOnes 64 ^^^ a := by
    apply BitVec.eq_of_getLsbD_eq
    intro i hi
    simp only [BitVec.getLsbD_not, BitVec.getLsbD_xor, BitVec.getLsbD_allOnes, decide_eq_true hi]
    cases a.getLsbD i <;> rfl
  rw [this, h, BitVec.toNat_xor]; rfl
@[go_sem] theorem run_convert_BU (src dst : TypeId) (b : BitVec 8) (hs : (P.underlying src).isSome = true) (hd : P.underlying dst = some (.int .u64)) :
    (convert src dst (B b)).run P w = .ok (U (b.setWidth 64)) w := by
  unfold U B
  have h : P.intKind dst = .u64 := by unfold Program.intKind; rw [hd]
  rw [run_convert_int w src dst _ _ hs (by rw [h]; exact hd), h, wrap_u64_nat _ (by have := b.isLt; omega)]
  have e : (b.setWidth 64).toNat = b.toNat := by rw [BitVec.toNat_setWidth]; have := b.isLt; omega
  rw [e]
@[go_sem] theorem run_convert_UB (src dst : TypeId) (b : BitVec 64) (hs : (P.underlying src).isSome = true) (hd : P.underlying dst = some (.int .u8)) :
    (convert src dst (U b)).run P w = .ok (B (b.setWidth 8)) w := by
  unfold U B
  have h : P.intKind dst = .u8 := by unfold Program.intKind; rw [hd]
  rw [run_convert_int w src dst _ _ hs (by rw [h]; exact hd), h, IntKind.wrap_u8]
  have e : ((b.setWidth 8).toNat : Int) = (b.toNat : Int) % 256 := by rw [BitVec.toNat_setWidth]; omega
  rw [e]
end

theorem bs_mul (c : BitVec 64) : (c >>> 1) ^^^ (poly * (c &&& 1#64)) = bs c := by
  unfold bs
  congr 1
  have h : c &&& 1#64 = if c.getLsbD 0 then 1#64 else 0#64 := by
    apply BitVec.eq_of_getLsbD_eq
    intro i hi
    rw [BitVec.getLsbD_and]
    cases i with
    | zero => cases c.getLsbD 0 <;> simp
    | succ i =>
      have : (1#64).getLsbD (i + 1) = false := by simp
      rw [this]
      cases c.getLsbD 0 <;> simp
  rw [h]
  cases c.getLsbD 0
  · simp only [Bool.false_eq_true, if_false]; exact BitVec.mul_zero
  · simp only [if_true]; exact BitVec.mul_one _

theorem U_ones : Value.int .u64 18446744073709551615 = U ones := by
  unfold U ones; rfl
theorem U_zero : Value.int .u64 0 = U 0#64 := rfl
theorem U_poly : Value.int .u64 14514072000185962306 = U poly := by
  unfold U; rfl
theorem rounds_succ (n : Nat) (c : BitVec 64) : rounds (n + 1) c = bs (rounds n c) := by
  rw [rounds_add]; rfl
end Suture
