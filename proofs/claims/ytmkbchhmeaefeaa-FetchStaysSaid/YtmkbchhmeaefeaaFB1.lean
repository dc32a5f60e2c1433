/-
  THE PLAIN LAW OF A SUM OF 64 BITS (no Go, no program): a step loses nothing, sums add up by exclusive or, and what changes within eight bytes changes the sum.
  Conditions: none beyond each theorem's own.
-/
import Derived.Test.YtmkbchhmeaefeaaProg
import Derived.WalkKit
import Derived.WalkSpells
import Derived.WalkLawsBesides
import Derived.KernelRfl
import Derived.Deep.LoopGhost
import Derived.Laws.BitsAllLaws
import Derived.RangeFuncNested
import Derived.Shelf.Abstract
import Derived.RangeFuncBound
import Derived.RangeFuncCalls
import Derived.RangeFuncLeaves
import Derived.OwnWalkIn
import Derived.TacticsInMore
import Derived.LoopNIn
import Derived.LoopIn
import Derived.Laws.Rows
import Derived.Laws.CopyRow
import Derived.OrdersIn
import Derived.DeepKeys2
import Derived.MapViews
import Derived.OwnWalk
import Derived.Deep.Upon
namespace Suture

def poly : BitVec 64 := 0xC96C5795D7870F42#64
/-- one bit -/
def bs (c : BitVec 64) : BitVec 64 := (c >>> 1) ^^^ (if c.getLsbD 0 then poly else 0#64)
def rounds : Nat → BitVec 64 → BitVec 64
  | 0, c => c
  | n + 1, c => rounds n (bs c)
/-- one byte -/
def step (c : BitVec 64) (b : BitVec 8) : BitVec 64 := rounds 8 (c ^^^ b.setWidth 64)
def sumFrom (c : BitVec 64) (l : List (BitVec 8)) : BitVec 64 := l.foldl step c
def ones : BitVec 64 := BitVec.allOnes 64
def sum (l : List (BitVec 8)) : BitVec 64 := ~~~ (sumFrom ones l)

theorem bs_xor (a b : BitVec 64) : bs (a ^^^ b) = bs a ^^^ bs b := by
  unfold bs
  rw [BitVec.ushiftRight_xor_distrib, BitVec.getLsbD_xor]
  cases a.getLsbD 0 <;> cases b.getLsbD 0 <;> simp
  · rw [BitVec.xor_assoc]
  · rw [BitVec.xor_assoc, BitVec.xor_assoc, BitVec.xor_comm poly]
  · rw [BitVec.xor_assoc, BitVec.xor_comm poly, BitVec.xor_assoc, BitVec.xor_self, BitVec.xor_zero]

theorem bs_zero : bs 0#64 = 0#64 := by decide

theorem bs_top (a : BitVec 64) : (bs a).getLsbD 63 = a.getLsbD 0 := by
  unfold bs
  rw [BitVec.getLsbD_xor, BitVec.getLsbD_ushiftRight]
  have h : a.getLsbD (1 + 63) = false := BitVec.getLsbD_of_ge _ _ (by omega)
  rw [h]
  cases a.getLsbD 0
  · simp
  · simp only [if_true, Bool.false_xor]; decide

theorem xor_eq_zero {w : Nat} {a b : BitVec w} (h : a ^^^ b = 0#w) : a = b := by
  have : a ^^^ b ^^^ b = 0#w ^^^ b := by rw [h]
  rwa [BitVec.xor_assoc, BitVec.xor_self, BitVec.xor_zero, BitVec.zero_xor] at this

theorem bs_ker {a : BitVec 64} (h : bs a = 0#64) : a = 0#64 := by
  have h0 : a.getLsbD 0 = false := by rw [← bs_top, h]; simp
  have h1 : a >>> 1 = 0#64 := by
    have := h; unfold bs at this; rw [h0] at this; simpa using this
  apply BitVec.eq_of_getLsbD_eq
  intro i hi
  rw [BitVec.getLsbD_zero]
  cases i with
  | zero => exact h0
  | succ i =>
    have := congrArg (fun x : BitVec 64 => x.getLsbD i) h1
    simp only [BitVec.getLsbD_ushiftRight, BitVec.getLsbD_zero] at this
    rwa [Nat.add_comm] at this

theorem rounds_xor (n : Nat) (a b : BitVec 64) : rounds n (a ^^^ b) = rounds n a ^^^ rounds n b := by
  induction n generalizing a b with
  | zero => rfl
  | succ n ih => simp only [rounds]; rw [bs_xor, ih]
theorem rounds_ker (n : Nat) {a : BitVec 64} (h : rounds n a = 0#64) : a = 0#64 := by
  induction n generalizing a with
  | zero => exact h
  | succ n ih => exact bs_ker (ih h)
theorem rounds_inj (n : Nat) {a b : BitVec 64} (h : rounds n a = rounds n b) : a = b := by
  apply xor_eq_zero
  apply rounds_ker n
  rw [rounds_xor, h, BitVec.xor_self]
theorem rounds_add (m n : Nat) (a : BitVec 64) : rounds (m + n) a = rounds n (rounds m a) := by
  induction m generalizing a with
  | zero => simp [rounds]
  | succ m ih => rw [Nat.succ_add]; simp only [rounds]; exact ih _

/-- what has only noughts below is shifted alone -/
theorem rounds_shift (n : Nat) (y : BitVec 64) (hn : n ≤ 64) (hy : ∀ i, 64 - n ≤ i → y.getLsbD i = false) : rounds n (y <<< n) = y := by
  induction n generalizing y with
  | zero => simp [rounds]
  | succ n ih =>
    have hb : bs (y <<< (n + 1)) = y <<< n := by
      unfold bs
      have h0 : (y <<< (n + 1)).getLsbD 0 = false := by simp
      rw [h0]
      simp only [Bool.false_eq_true, if_false, BitVec.xor_zero]
      apply BitVec.eq_of_getLsbD_eq
      intro i hi
      rw [BitVec.getLsbD_ushiftRight, BitVec.getLsbD_shiftLeft, BitVec.getLsbD_shiftLeft]
      by_cases hi63 : i = 63
      · subst hi63
        have : y.getLsbD (63 - n) = false := hy _ (by omega)
        simp [this]
      · by_cases hlt : i < n
        · have a1 : decide (1 + i < n + 1) = true := by simp; omega
          have a2 : decide (i < n) = true := by simp; omega
          simp only [a1, a2, Bool.not_true, Bool.and_false, Bool.false_and]
        · have a1 : decide (1 + i < n + 1) = false := by simp; omega
          have a2 : decide (i < n) = false := by simp; omega
          have a3 : decide (1 + i < 64) = true := by simp; omega
          have a4 : decide (i < 64) = true := by simp; omega
          rw [a1, a2, a3, a4, show 1 + i - (n + 1) = i - n from by omega]
    simp only [rounds, hb]
    exact ih y (by omega) (fun i hi => hy i (by omega))

/-- the program's own way to make a step -/
theorem step_by_table (c : BitVec 64) (b : BitVec 8) : rounds 8 ((c.setWidth 8 ^^^ b).setWidth 64) ^^^ c >>> 8 = step c b := by
  unfold step
  have hx : c ^^^ b.setWidth 64 = (c.setWidth 8 ^^^ b).setWidth 64 ^^^ (c >>> 8) <<< 8 := by
    apply BitVec.eq_of_getLsbD_eq
    intro i hi
    simp only [BitVec.getLsbD_xor, BitVec.getLsbD_setWidth, BitVec.getLsbD_shiftLeft, BitVec.getLsbD_ushiftRight]
    by_cases h8 : i < 8
    · simp [h8, hi]
    · have hb : b.getLsbD i = false := BitVec.getLsbD_of_ge _ _ (by omega)
      have e : 8 + (i - 8) = i := by omega
      simp [h8, hi, hb, e]
  rw [hx, rounds_xor, rounds_shift 8 (c >>> 8) (by omega)]
  intro i hi
  rw [BitVec.getLsbD_ushiftRight]
  exact BitVec.getLsbD_of_ge _ _ (by omega)

theorem step_inj {c d : BitVec 64} {a : BitVec 8} (h : step c a = step d a) : c = d := by
  have := rounds_inj 8 h
  have h2 : c ^^^ a.setWidth 64 ^^^ a.setWidth 64 = d ^^^ a.setWidth 64 ^^^ a.setWidth 64 := by rw [this]
  rwa [BitVec.xor_assoc, BitVec.xor_assoc, BitVec.xor_self, BitVec.xor_zero, BitVec.xor_zero] at h2
theorem xor_left_cancel {w : Nat} {c x y : BitVec w} (h : c ^^^ x = c ^^^ y) : x = y := by
  have : c ^^^ (c ^^^ x) = c ^^^ (c ^^^ y) := by rw [h]
  rwa [← BitVec.xor_assoc, ← BitVec.xor_assoc, BitVec.xor_self, BitVec.zero_xor, BitVec.zero_xor] at this
theorem setWidth_inj {a b : BitVec 8} (h : a.setWidth 64 = b.setWidth 64) : a = b := by
  have := congrArg (fun x : BitVec 64 => x.setWidth 8) h
  simpa using this
theorem step_inj_byte {c : BitVec 64} {a b : BitVec 8} (h : step c a = step c b) : a = b :=
  setWidth_inj (xor_left_cancel (rounds_inj 8 h))

theorem sumFrom_append (c : BitVec 64) (l m : List (BitVec 8)) : sumFrom c (l ++ m) = sumFrom (sumFrom c l) m := by
  unfold sumFrom; rw [List.foldl_append]
theorem sumFrom_inj {c d : BitVec 64} (l : List (BitVec 8)) (h : sumFrom c l = sumFrom d l) : c = d := by
  induction l generalizing c d with
  | nil => exact h
  | cons b l ih => exact step_inj (ih h)

/-- eight bytes as a number, the lowest first -/
def le : List (BitVec 8) → BitVec 64
  | [] => 0#64
  | b :: l => b.setWidth 64 ^^^ (le l) <<< 8

theorem le_high (l : List (BitVec 8)) (i : Nat) (h : 8 * l.length ≤ i) : (le l).getLsbD i = false := by
  induction l generalizing i with
  | nil => simp [le]
  | cons b l ih =>
    simp only [List.length_cons] at h
    simp only [le, BitVec.getLsbD_xor, BitVec.getLsbD_setWidth, BitVec.getLsbD_shiftLeft]
    rw [ih (i - 8) (by omega), BitVec.getLsbD_of_ge b i (by omega)]
    simp

theorem sumFrom_le (c : BitVec 64) (l : List (BitVec 8)) (h : l.length ≤ 8) : sumFrom c l = rounds (8 * l.length) (c ^^^ le l) := by
  induction l generalizing c with
  | nil => simp [sumFrom, le, rounds]
  | cons b l ih =>
    simp only [List.length_cons] at h
    have e1 : sumFrom c (b :: l) = sumFrom (step c b) l := rfl
    rw [e1, ih _ (by omega)]
    have e2 : le l = rounds 8 ((le l) <<< 8) := (rounds_shift 8 (le l) (by omega) (fun i hi => le_high l i (by omega))).symm
    have e3 : step c b ^^^ le l = rounds 8 (c ^^^ le (b :: l)) := by
      unfold step
      rw [e2, ← rounds_xor, le, BitVec.xor_assoc]
    rw [e3, ← rounds_add, List.length_cons]
    congr 1
    omega

theorem le_inj (l m : List (BitVec 8)) (hl : l.length = m.length) (h8 : l.length ≤ 8) (h : le l = le m) : l = m := by
  induction l generalizing m with
  | nil => cases m with
    | nil => rfl
    | cons b m => simp at hl
  | cons a l ih =>
    cases m with
    | nil => simp at hl
    | cons b m =>
      simp only [List.length_cons] at hl h8
      have hbit : ∀ i, (le (a :: l)).getLsbD i = (le (b :: m)).getLsbD i := fun i => by rw [h]
      have hab : a = b := by
        apply BitVec.eq_of_getLsbD_eq
        intro i hi
        have := hbit i
        simp only [le, BitVec.getLsbD_xor, BitVec.getLsbD_setWidth, BitVec.getLsbD_shiftLeft] at this
        have h1 : decide (i < 64) = true := by simp; omega
        have h2 : decide (i < 8) = true := by simp; omega
        simpa [h1, h2] using this
      subst hab
      have hlm : le l = le m := by
        apply BitVec.eq_of_getLsbD_eq
        intro i hi
        by_cases h7 : 56 ≤ i
        · rw [le_high l i (by omega), le_high m i (by omega)]
        · have := hbit (i + 8)
          simp only [le, BitVec.getLsbD_xor, BitVec.getLsbD_setWidth, BitVec.getLsbD_shiftLeft] at this
          rw [BitVec.getLsbD_of_ge a (i + 8) (by omega)] at this
          have h1 : decide (i + 8 < 64) = true := by simp; omega
          have h2 : decide (i + 8 < 8) = false := by simp
          have h3 : i + 8 - 8 = i := by omega
          simpa [h1, h2, h3] using this
      rw [ih m (by omega) (by omega) hlm]

/-- THE BURST: lists that part only within eight bytes have unlike sums. -/
theorem sum_burst (pre mid mid' post : List (BitVec 8)) (hl : mid.length = mid'.length) (h8 : mid.length ≤ 8) :
    sum (pre ++ mid ++ post) = sum (pre ++ mid' ++ post) ↔ mid = mid' := by
  constructor
  · intro h
    unfold sum at h
    have h1 : sumFrom ones (pre ++ mid ++ post) = sumFrom ones (pre ++ mid' ++ post) := by
      have := congrArg (fun x : BitVec 64 => ~~~ x) h
      simpa using this
    rw [sumFrom_append, sumFrom_append, sumFrom_append, sumFrom_append] at h1
    have h2 := sumFrom_inj post h1
    rw [sumFrom_le _ mid h8, sumFrom_le _ mid' (by omega), ← hl] at h2
    exact le_inj mid mid' hl h8 (xor_left_cancel (rounds_inj _ h2))
  · intro h; rw [h]

theorem step_three (c d e : BitVec 64) (x y z : BitVec 8) : step (c ^^^ d ^^^ e) (x ^^^ y ^^^ z) = step c x ^^^ step d y ^^^ step e z := by
  unfold step
  rw [← rounds_xor, ← rounds_xor]
  congr 1
  apply BitVec.eq_of_getLsbD_eq
  intro i hi
  simp only [BitVec.getLsbD_xor, BitVec.getLsbD_setWidth]
  have h1 : decide (i < 64) = true := by simp; omega
  rw [h1]
  simp only [Bool.true_and]
  cases c.getLsbD i <;> cases d.getLsbD i <;> cases e.getLsbD i <;> cases x.getLsbD i <;> cases y.getLsbD i <;> cases z.getLsbD i <;> rfl

/-- three rows of one length, combined -/
def xor3 : List (BitVec 8) → List (BitVec 8) → List (BitVec 8) → List (BitVec 8)
  | x :: a, y :: b, z :: c => (x ^^^ y ^^^ z) :: xor3 a b c
  | _, _, _ => []

theorem sumFrom_three (p q r : BitVec 64) (a b c : List (BitVec 8)) (hab : a.length = b.length) (hac : a.length = c.length) :
    sumFrom (p ^^^ q ^^^ r) (xor3 a b c) = sumFrom p a ^^^ sumFrom q b ^^^ sumFrom r c := by
  induction a generalizing b c p q r with
  | nil => cases b with
    | nil => cases c with
      | nil => rfl
      | cons z c => simp at hac
    | cons y b => simp at hab
  | cons x a ih =>
    cases b with
    | nil => simp at hab
    | cons y b => cases c with
      | nil => simp at hac
      | cons z c =>
        simp only [List.length_cons] at hab hac
        have e : sumFrom (p ^^^ q ^^^ r) (xor3 (x :: a) (y :: b) (z :: c)) = sumFrom (step (p ^^^ q ^^^ r) (x ^^^ y ^^^ z)) (xor3 a b c) := rfl
        rw [e, step_three, ih _ _ _ b c (by omega) (by omega)]
        rfl

theorem sum_three (a b c : List (BitVec 8)) (hab : a.length = b.length) (hac : a.length = c.length) : sum (xor3 a b c) = sum a ^^^ sum b ^^^ sum c := by
  unfold sum
  have h : ones = ones ^^^ ones ^^^ ones := by decide
  have e := sumFrom_three ones ones ones a b c hab hac
  rw [← h] at e
  rw [e]
  apply BitVec.eq_of_getLsbD_eq
  intro i hi
  simp only [BitVec.getLsbD_not, BitVec.getLsbD_xor]
  have h1 : decide (i < 64) = true := by simp; omega
  rw [h1]
  simp only [Bool.true_and]
  cases (sumFrom ones a).getLsbD i <;> cases (sumFrom ones b).getLsbD i <;> cases (sumFrom ones c).getLsbD i <;> rfl

theorem wake_nine : sum [0x31#8, 0x32#8, 0x33#8, 0x34#8, 0x35#8, 0x36#8, 0x37#8, 0x38#8, 0x39#8] = 0x995dc9bbdf1939fa#64 := by decide +kernel
theorem wake_none : sum [] = 0#64 := by decide
theorem wake_step : step 0#64 0#8 = 0#64 := by decide +kernel
theorem wake_table : rounds 8 ((0x80#8).setWidth 64) = 0xC96C5795D7870F42#64 := by decide +kernel

end Suture
/-
  WORDS FOR THE WALKS (no program): unsigned numbers as values, by bit vectors.
  Conditions: none beyond each theorem's own.
-/
namespace Suture
open Go Go.RowKit

/-- a uint64 -/
def U (c : BitVec 64) : Value := .int .u64 (c.toNat : Int)
/-- a byte -/
def B (b : BitVec 8) : Value := .int .u8 (b.toNat : Int)

section
variable {P : Program} (w : World)

@[go_sem ↓] theorem U_cells (c : BitVec 64) : (U c).cells = #[U c] := rfl
@[go_sem ↓] theorem B_cells (c : BitVec 8) : (B c).cells = #[B c] := rfl
@[go_sem] theorem U_match {β : Type} (c : BitVec 64) (f : Array Value → β) (g : Value → β) : Value.cells.match_1 (fun _ => β) (U c) f g = g (U c) := rfl
@[go_sem] theorem B_match {β : Type} (c : BitVec 8) (f : Array Value → β) (g : Value → β) : Value.cells.match_1 (fun _ => β) (B c) f g = g (B c) := rfl
@[go_sem] theorem run_store_U (a : Addr) (m : Mode) (c : BitVec 64) : (store a (U c) m).run P w = stored P w a (U c) m := run_store P w a _ m rfl
@[go_sem] theorem run_store_B (a : Addr) (m : Mode) (c : BitVec 8) : (store a (B c) m).run P w = stored P w a (B c) m := run_store P w a _ m rfl
@[go_sem] theorem eqGuard_U (op : BinOp) (t : TypeId) (x y : Operand) (c : BitVec 64) (b : Value) : eqGuard op t x y (U c) b = pure () := by
  unfold eqGuard U; cases op <;> rfl
@[go_sem] theorem eqGuard_B (op : BinOp) (t : TypeId) (x y : Operand) (c : BitVec 8) (b : Value) : eqGuard op t x y (B c) b = pure () := by
  unfold eqGuard B; cases op <;> rfl
theorem run_pure' {α : Type} (x : α) (P : Program) (w : World) : (pure x : Sem α).run P w = .ok x w := rfl

theorem wrap_u64_nat (n : Nat) (h : n < 18446744073709551616) : IntKind.u64.wrap (n : Int) = n := by
  rw [IntKind.wrap_u64]; omega
theorem wrap_u8_nat (n : Nat) (h : n < 256) : IntKind.u8.wrap (n : Int) = n := by
  rw [IntKind.wrap_u8]; omega

theorem bits_xor_U (a b : BitVec 64) : bits .xor .u64 (a.toNat : Int) (b.toNat : Int) = ((a ^^^ b).toNat : Int) := by
  have := Go.u64_xor_nat a.toNat b.toNat a.isLt b.isLt
  rw [this, BitVec.toNat_xor]
theorem bits_xor_B (a b : BitVec 8) : bits .xor .u8 (a.toNat : Int) (b.toNat : Int) = ((a ^^^ b).toNat : Int) := by
  have := Go.u8_xor_nat a.toNat b.toNat a.isLt b.isLt
  rw [this, BitVec.toNat_xor]

theorem beq_toNat {n : Nat} (a b : BitVec n) : ((a.toNat : Int) == (b.toNat : Int)) = (a == b) := by
  by_cases h : a = b
  · subst h; simp
  · have h1 : a.toNat ≠ b.toNat := fun e => h (BitVec.eq_of_toNat_eq e)
    have h2 : ((a.toNat : Int)) ≠ (b.toNat : Int) := by omega
    rw [beq_eq_false_iff_ne.2 h, beq_eq_false_iff_ne.2 h2]
theorem bne_toNat {n : Nat} (a b : BitVec n) : ((a.toNat : Int) != (b.toNat : Int)) = (a != b) := by
  unfold bne; rw [beq_toNat]

@[go_sem] theorem binOp_xor_U (t : TypeId) (a b : BitVec 64) : binOp .xor t (U a) (U b) = pure (U (a ^^^ b)) := by
  unfold U; rw [binOp_xor, intBits_xor, bits_xor_U]
@[go_sem] theorem binOp_xor_B (t : TypeId) (a b : BitVec 8) : binOp .xor t (B a) (B b) = pure (B (a ^^^ b)) := by
  unfold B; rw [binOp_xor, intBits_xor, bits_xor_B]
@[go_sem] theorem binOp_eql_U (t : TypeId) (a b : BitVec 64) : binOp .eql t (U a) (U b) = pure (.bool (a == b)) := by
  unfold U; rw [binOp_eql, beq_toNat]
@[go_sem] theorem binOp_neq_U (t : TypeId) (a b : BitVec 64) : binOp .neq t (U a) (U b) = pure (.bool (a != b)) := by
  unfold U; rw [binOp_neq, bne_toNat]
@[go_sem] theorem binOp_eql_B (t : TypeId) (a b : BitVec 8) : binOp .eql t (B a) (B b) = pure (.bool (a == b)) := by
  unfold B; rw [binOp_eql, beq_toNat]
@[go_sem] theorem binOp_neq_B (t : TypeId) (a b : BitVec 8) : binOp .neq t (B a) (B b) = pure (.bool (a != b)) := by
  unfold B; rw [binOp_neq, bne_toNat]

theorem shr_U (a : BitVec 64) (n : Nat) : (a.toNat : Int) / 2 ^ n = ((a >>> n).toNat : Int) := by
  rw [BitVec.toNat_ushiftRight, Nat.shiftRight_eq_div_pow]
  norm_cast
@[go_sem] theorem binOp_shr_U1 (t : TypeId) (a : BitVec 64) : binOp .shr t (U a) (.int .u64 1) = pure (U (a >>> 1)) := by
  unfold U; rw [binOp_shr, shift_shr_u64 _ _ _ (by decide) (by decide)]
  rw [show (1 : Int).toNat = 1 from rfl, shr_U]
@[go_sem] theorem binOp_shr_U8 (t : TypeId) (a : BitVec 64) : binOp .shr t (U a) (.int .u64 8) = pure (U (a >>> 8)) := by
  unfold U; rw [binOp_shr, shift_shr_u64 _ _ _ (by decide) (by decide)]
  rw [show (8 : Int).toNat = 8 from rfl, shr_U]
@[go_sem] theorem binOp_and_U1 (t : TypeId) (a : BitVec 64) : binOp .and t (U a) (.int .u64 1) = pure (U (a &&& 1#64)) := by
  unfold U; rw [binOp_and, intBits_and]
  have := Go.u64_and_nat a.toNat 1 a.isLt (by decide)
  rw [show ((1 : Nat) : Int) = 1 from rfl] at this
  rw [this, BitVec.toNat_and]; rfl
@[go_sem] theorem binOp_mul_poly (t : TypeId) (a : BitVec 64) : binOp .mul t (.int .u64 14514072000185962306) (U a) = pure (U (poly * a)) := by
  unfold U; rw [binOp_mul]
  simp only [Op.intArith]
  have e : poly.toNat = 14514072000185962306 := by decide
  have h : IntKind.u64.wrap (14514072000185962306 * (a.toNat : Int)) = ((poly * a).toNat : Int) := by
    rw [IntKind.wrap_u64, BitVec.toNat_mul, e, show (2 : Nat) ^ 64 = 18446744073709551616 from rfl]
    omega
  rw [← h]
@[go_sem] theorem unary_xor_U (a : BitVec 64) : Op.unary .xor (U a) = pure (U (~~~a)) := by
  unfold U
  rw [unary_xor, intBits_xor]
  have e : (if IntKind.u64.signed = true then (-1 : Int) else IntKind.u64.max) = ((18446744073709551615 : Nat) : Int) := by decide
  rw [e]
  have := Go.u64_xor_nat 18446744073709551615 a.toNat (by decide) a.isLt
  have h : (~~~a) = BitVec.allOnes 64 ^^^ a := by
    apply BitVec.eq_of_getLsbD_eq
    intro i hi
    simp only [BitVec.getLsbD_not, BitVec.getLsbD_xor, BitVec.getLsbD_allOnes, decide_eq_true hi]
    cases a.getLsbD i <;> rfl
  rw [this, h, BitVec.toNat_xor]; rfl
@[go_sem] theorem run_convert_BU (src dst : TypeId) (b : BitVec 8) (hs : (P.underlying src).isSome = true) (hd : P.underlying dst = some (.int .u64)) :
    (convert src dst (B b)).run P w = .ok (U (b.setWidth 64)) w := by
  unfold U B
  have h : P.intKind dst = .u64 := by unfold Program.intKind; rw [hd]
  rw [run_convert_int w src dst _ _ hs (by rw [h]; exact hd), h, wrap_u64_nat _ (by have := b.isLt; omega)]
  have e : (b.setWidth 64).toNat = b.toNat := by rw [BitVec.toNat_setWidth]; have := b.isLt; omega
  rw [e]
@[go_sem] theorem run_convert_UB (src dst : TypeId) (b : BitVec 64) (hs : (P.underlying src).isSome = true) (hd : P.underlying dst = some (.int .u8)) :
    (convert src dst (U b)).run P w = .ok (B (b.setWidth 8)) w := by
  unfold U B
  have h : P.intKind dst = .u8 := by unfold Program.intKind; rw [hd]
  rw [run_convert_int w src dst _ _ hs (by rw [h]; exact hd), h, IntKind.wrap_u8]
  have e : ((b.setWidth 8).toNat : Int) = (b.toNat : Int) % 256 := by rw [BitVec.toNat_setWidth]; omega
  rw [e]
end

theorem bs_mul (c : BitVec 64) : (c >>> 1) ^^^ (poly * (c &&& 1#64)) = bs c := by
  unfold bs
  congr 1
  have h : c &&& 1#64 = if c.getLsbD 0 then 1#64 else 0#64 := by
    apply BitVec.eq_of_getLsbD_eq
    intro i hi
    rw [BitVec.getLsbD_and]
    cases i with
    | zero => cases c.getLsbD 0 <;> simp
    | succ i =>
      have : (1#64).getLsbD (i + 1) = false := by simp
      rw [this]
      cases c.getLsbD 0 <;> simp
  rw [h]
  cases c.getLsbD 0
  · simp only [Bool.false_eq_true, if_false]; exact BitVec.mul_zero
  · simp only [if_true]; exact BitVec.mul_one _

theorem U_ones : Value.int .u64 18446744073709551615 = U ones := by
  unfold U ones; rfl
theorem U_zero : Value.int .u64 0 = U 0#64 := rfl
theorem U_poly : Value.int .u64 14514072000185962306 = U poly := by
  unfold U; rfl
theorem rounds_succ (n : Nat) (c : BitVec 64) : rounds (n + 1) c = bs (rounds n c) := by
  rw [rounds_add]; rfl
end Suture
/-
  A RANGE OVER A FUNCTION, BY BLOCKS (no program): an iterator's contract 'IterAt', and the law for the statement.
  An iterator keeps its caller's blocks (the set C) and all below n₀; a round keeps all that is not its caller's.
  Conditions: none beyond each theorem's own.
-/
namespace Suture
open Go Go.RowKit

/-- the blocks of R lie as they lay; the streams too; nothing has gone -/
structure Agrees (R : Nat → Prop) (W W' : World) : Prop where
  os : W'.os = W.os
  tape : W'.tape = W.tape
  output : W'.output = W.output
  size : W.heap.size ≤ W'.heap.size
  block : ∀ b, b < W.heap.size → R b → W'.heap[b]? = W.heap[b]?

def All : Nat → Prop := fun _ => True

theorem Agrees.refl (R : Nat → Prop) (W : World) : Agrees R W W := ⟨rfl, rfl, rfl, Nat.le_refl _, fun _ _ _ => rfl⟩
theorem Agrees.trans {R : Nat → Prop} {A B C : World} (h : Agrees R A B) (k : Agrees R B C) : Agrees R A C :=
  ⟨k.os.trans h.os, k.tape.trans h.tape, k.output.trans h.output, Nat.le_trans h.size k.size,
    fun b hb hr => (k.block b (Nat.lt_of_lt_of_le hb h.size) hr).trans (h.block b hb hr)⟩
theorem Agrees.mono {R R' : Nat → Prop} {A B : World} (h : Agrees R A B) (hr : ∀ b, b < A.heap.size → R' b → R b) : Agrees R' A B :=
  ⟨h.os, h.tape, h.output, h.size, fun b hb hb' => h.block b hb (hr b hb hb')⟩
theorem Agrees.weak {R : Nat → Prop} {A B : World} (h : Agrees All A B) : Agrees R A B := h.mono fun _ _ _ => trivial
theorem Agrees.trans' {R S : Nat → Prop} {A B C : World} (h : Agrees R A B) (k : Agrees S B C) (hs : ∀ b, b < A.heap.size → R b → S b) : Agrees R A C :=
  ⟨k.os.trans h.os, k.tape.trans h.tape, k.output.trans h.output, Nat.le_trans h.size k.size,
    fun b hb hr => (k.block b (Nat.lt_of_lt_of_le hb h.size) (hs b hb hr)).trans (h.block b hb hr)⟩
theorem Agrees.alloc {R : Nat → Prop} {A W : World} (h : Agrees R A W) (o : Obj) : Agrees R A (W.alloc o) :=
  ⟨h.os, h.tape, h.output, by have := h.size; simp; omega, fun b hb hr => by
    have := h.size
    exact (Below.heap_alloc W o b (by omega)).trans (h.block b hb hr)⟩
theorem Agrees.drew {R : Nat → Prop} {A W : World} (h : Agrees R A W) : Agrees R A W.drew := ⟨h.os, h.tape, h.output, h.size, h.block⟩
theorem Agrees.setCell {R : Nat → Prop} {A W : World} (h : Agrees R A W) {p : Addr} (hp : ¬ R p.block ∨ A.heap.size ≤ p.block) (u : Value) : Agrees R A (W.setCell p u) :=
  ⟨h.os, h.tape, h.output, by have := h.size; simpa [World.setCell] using this, fun b hb hr => by
    refine (Below.heap_setCell W p u b (fun e => ?_)).trans (h.block b hb hr)
    subst e
    rcases hp with hp | hp
    · exact hp hr
    · omega⟩
theorem Agrees.putObj {R : Nat → Prop} {A W : World} (h : Agrees R A W) {p : Nat} (hp : ¬ R p ∨ A.heap.size ≤ p) (o : Obj) : Agrees R A (W.putObj p o) :=
  ⟨h.os, h.tape, h.output, by have := h.size; simpa using this, fun b hb hr => by
    refine (World.putObj_heap_other (fun e => ?_)).trans (h.block b hb hr)
    subst e
    rcases hp with hp | hp
    · exact hp hr
    · omega⟩
theorem Agrees.below {R : Nat → Prop} {A B : World} {n : Nat} (h : Agrees R A B) (hr : ∀ b, b < n → R b) (hn : n ≤ A.heap.size) : Below n A B :=
  ⟨h.os, h.tape, h.output, h.size, fun b hb => h.block b (by omega) (hr b hb)⟩
theorem agrees_of_below {A B : World} {n : Nat} (h : Below n A B) : Agrees (fun b => b < n) A B :=
  ⟨h.os, h.tape, h.output, h.size, fun b _ hb => h.block b hb⟩
theorem agrees_of_below_all {A B : World} (h : Below A.heap.size A B) : Agrees All A B :=
  ⟨h.os, h.tape, h.output, h.size, fun b hb _ => h.block b hb⟩
theorem Agrees.cell {R : Nat → Prop} {A B : World} (h : Agrees R A B) {p : Addr} (hb : p.block < A.heap.size) (hr : R p.block) : B.cell? p = A.cell? p :=
  World.cell?_of_block (w := A) (h.block p.block hb hr)
theorem Agrees.frozen {R : Nat → Prop} {A B : World} (h : Agrees R A B) {p : Addr} (hb : p.block < A.heap.size) (hr : R p.block) : B.frozen? p = A.frozen? p :=
  World.frozen?_of_block (w := A) (h.block p.block hb hr)

/-- an invariant of the caller's that does not mind an iterator's steps -/
def Stab (n₀ : Nat) (J : Nat → (Nat → Prop) → World → Prop) : Prop :=
  ∀ k C W W', J k C W → Agrees (fun b => C b ∨ b < n₀) W W' → J k C W'

/-- AN ITERATOR's CONTRACT: it hands over 'encs 0', .. , 'encs (N - 1)'. -/
def IterAt (P : Program) (g : FuncId) (lb : Array Value) (encs : Nat → Array Value) (N : Nat) (n₀ : Nat) (R : Nat → Prop) (w0 : World) : Prop :=
  ∀ (l : Nat) (J Jx : Nat → (Nat → Prop) → World → Prop) (C : Nat → Prop) (W : World),
    Agrees R w0 W → (∀ b, C b → ¬ R b ∧ b < W.heap.size) → Stab n₀ J → Stab n₀ Jx →
    (∀ k C W1, k < N → J k C W1 → (∀ b, C b → b < W1.heap.size) → YieldAt Fence.wide 0 P l (encs k) W1 fun e W2 =>
      (e = .returned (.bool true) ∧ Agrees (fun b => ¬ C b) W1 W2 ∧ ∃ C', J (k + 1) C' W2 ∧ (∀ b, C' b → b < W2.heap.size ∧ (C b ∨ W1.heap.size ≤ b))) ∨
      (e = .returned (.bool false) ∧ Agrees (fun b => ¬ C b) W1 W2 ∧ ∃ C', Jx k C' W2 ∧ (∀ b, C' b → b < W2.heap.size ∧ (C b ∨ W1.heap.size ≤ b)))) →
    J 0 C W →
    Calls P g (#[.func (.yield l) #[] #[]] ++ lb) W fun e W2 => (∃ v, e = .returned v) ∧ ∃ C', (J N C' W2 ∨ ∃ k, k < N ∧ Jx k C' W2)

/-- how the body of a round may be left -/
def iterPost (I : Nat → (Nat → Prop) → World → Prop) (Ix : Code → Nat → (Nat → Prop) → World → Prop) (k : Nat) (C : Nat → Prop) (W : World) : Exit → Act → World → Prop
  | .normal, _, W' => Agrees (fun b => ¬ C b) W W' ∧ ∃ C', I (k + 1) C' W' ∧ (∀ b, C' b → b < W'.heap.size ∧ (C b ∨ W.heap.size ≤ b))
  | .ret, _, W' => Agrees (fun b => ¬ C b) W W' ∧ ∃ C', Ix .ret k C' W' ∧ (∀ b, C' b → b < W'.heap.size ∧ (C b ∨ W.heap.size ≤ b))
  | .exit id, _, W' => Agrees (fun b => ¬ C b) W W' ∧ ∃ C', Ix (.exit id) k C' W' ∧ (∀ b, C' b → b < W'.heap.size ∧ (C b ∨ W.heap.size ≤ b))
  | .goto t, _, W' => Agrees (fun b => ¬ C b) W W' ∧ ∃ C', Ix (.goto t) k C' W' ∧ (∀ b, C' b → b < W'.heap.size ∧ (C b ∨ W.heap.size ≤ b))
  | .panic _, _, _ => False
  | .outgrown, _, _ => False

variable {P : Program}

theorem wp_rangeFunc_iter {g : Operand} {ps : Array Tmp} {assign body : Code} {Q : Exit → Act → World → Prop} {a : Act} {w : World}
    {gf : Nat} {lb : Array Value} (hg : a.eval g = .func (.func gf) #[] lb) (eg : ∀ args w, (callFunc gf args).run P w = .ok (.enter gf args) w)
    {encs : Nat → Array Value} {N n₀ : Nat} {R : Nat → Prop} {w0 : World} (hit : IterAt P gf lb encs N n₀ R w0)
    (hR0 : Agrees R w0 w) (hRw : ∀ b, R b → b < w.heap.size) (hn0 : n₀ ≤ w.heap.size) (hps : ∀ k, (encs k).size = ps.size)
    (C : Nat → Prop) (hC : ∀ b, C b → ¬ R b ∧ b < w.heap.size)
    (I : Nat → (Nat → Prop) → World → Prop) (Ix : Code → Nat → (Nat → Prop) → World → Prop) (hI : Stab n₀ I) (hIx : ∀ c, Stab n₀ (Ix c)) (h0 : I 0 C w)
    (a₁ : Nat → Act)
    (hassign : ∀ (l k : Nat) (W : World) (K : Act → World → Prop), K (a₁ k) W →
      assign.wpIn (Fence.wide.inRound l) 0 P (Exit.then K (fun _ _ _ => False)) { tmps := (ps.zip (encs k)).foldl (fun t (p, v) => t.setIfInBounds p v) a.tmps, defers := [] } W)
    (hbody : ∀ (l k : Nat) (C : Nat → Prop) (W : World), k < N → I k C W → (∀ b, C b → b < W.heap.size) → w.heap.size ≤ W.heap.size →
      body.wpIn (Fence.wide.inRound l) 0 P (iterPost I Ix k C W) (a₁ k) W)
    (hdone : ∀ (D : Nat) (C : Nat → Prop) (W : World), w.heap.size ≤ D → I N C W → W.heap[D]? = some (.deferred (some [])) → ¬ C D →
      Q .normal { a with defers := { target := .collected D, args := #[] } :: a.defers } W)
    (hstop : ∀ (D k : Nat) (c : Code) (C : Nat → Prop) (W : World), w.heap.size ≤ D → k < N → Ix c k C W → W.heap[D]? = some (.deferred (some [])) → ¬ C D →
      c.wp P Q { a with defers := { target := .collected D, args := #[] } :: a.defers } W) :
    (Code.rangeFunc g ps assign body).wp P Q a w := by
  refine (wpIn_wide (n := 0)).1 (wpIn_rangeFunc ?_)
  intro fn hfn
  show ∃ l mark w₁ d w₁' f args w₂, (Instr.enterLoop fn a.tmps ps assign body none).run P w = .ok (l, mark) w₁ ∧ _
  obtain ⟨rec, hrec⟩ : ∃ rec : LoopState → Option Code → Loop, rec = fun st pe => { state := st, pending := pe, fn, tmps := a.tmps, params := ps, assign, body, defers := w.heap.size } := ⟨_, rfl⟩
  obtain ⟨W1, hW1⟩ : ∃ W1, (w.alloc (.deferred (some []))).alloc (.loop (rec .ready none)) = W1 := ⟨_, rfl⟩
  have hL1 : W1.heap[w.heap.size + 1]? = some (.loop (rec .ready none)) := by
    rw [← hW1]; have := World.alloc_heap_new (w.alloc (.deferred (some []))) (.loop (rec .ready none)); rwa [World.size_alloc] at this
  have hK1 : W1.heap[w.heap.size]? = some (.deferred (some [])) := by
    rw [← hW1]; exact (Below.heap_alloc _ _ _ (by simp)).trans (World.alloc_heap_new w _)
  have hA1 : Agrees All w W1 := by rw [← hW1]; exact ((Agrees.refl _ w).alloc _).alloc _
  have hI1 : I 0 C W1 := hI _ _ _ _ h0 hA1.weak
  have hsz : W1.heap.size = w.heap.size + 2 := by rw [← hW1]; simp
  have hb1 : Agrees R w0 W1 := hR0.trans hA1.weak
  refine ⟨w.heap.size + 1, [{ target := .collected w.heap.size, args := #[] }], W1, { target := .fn (.func gf) lb, args := #[.func (.yield (w.heap.size + 1)) #[] #[]] }, W1, gf,
    #[.func (.yield (w.heap.size + 1)) #[] #[]] ++ lb, W1, ?_, ?_, ?_, ?_, ?_, ?_⟩
  · rw [← hW1, hrec]; exact run_enterLoop_outer _ _ _ _ _
  · simp only [resolve, hg]
    simp [go_sem]
  · intro f' hf'; exact trivial
  · simp [invoke, go_sem, eg]
  · intro h; cases h
  · refine callsIn_wide.2 ?_
    refine (hit (w.heap.size + 1)
      (fun k C' W => ∃ C, I k C W ∧ ¬ C w.heap.size ∧ ¬ C (w.heap.size + 1) ∧ C' = (fun b => C b ∨ b = w.heap.size ∨ b = w.heap.size + 1) ∧
        W.heap[w.heap.size + 1]? = some (.loop (rec .ready none)) ∧ W.heap[w.heap.size]? = some (.deferred (some [])))
      (fun k C' W => ∃ C c, Ix c k C W ∧ ¬ C w.heap.size ∧ ¬ C (w.heap.size + 1) ∧ C' = (fun b => C b ∨ b = w.heap.size ∨ b = w.heap.size + 1) ∧
        W.heap[w.heap.size + 1]? = some (.loop (rec .done (some c))) ∧ W.heap[w.heap.size]? = some (.deferred (some [])))
      (fun b => C b ∨ b = w.heap.size ∨ b = w.heap.size + 1) W1 hb1 ?_ ?_ ?_ ?_ ⟨C, hI1, fun h => by have := hC _ h; omega, fun h => by have := hC _ h; omega, rfl, hL1, hK1⟩).mono ?_
    · intro b hb
      rcases hb with hb | rfl | rfl
      · have := hC _ hb; exact ⟨this.1, by omega⟩
      · exact ⟨fun h => by have := hRw _ h; omega, by omega⟩
      · exact ⟨fun h => by have := hRw _ h; omega, by omega⟩
    · rintro k C' W W' ⟨C, hi, hc1, hc2, rfl, hl, hk⟩ hag
      refine ⟨C, hI _ _ _ _ hi (hag.mono fun b _ hb => ?_), hc1, hc2, rfl, ?_, ?_⟩
      · rcases hb with hb | hb
        · exact .inl (.inl hb)
        · exact .inr hb
      · exact (hag.block _ (Array.getElem?_eq_some_iff.1 hl).1 (.inl (.inr (.inr rfl)))).trans hl
      · exact (hag.block _ (Array.getElem?_eq_some_iff.1 hk).1 (.inl (.inr (.inl rfl)))).trans hk
    · rintro k C' W W' ⟨C, c, hi, hc1, hc2, rfl, hl, hk⟩ hag
      refine ⟨C, c, hIx c _ _ _ _ hi (hag.mono fun b _ hb => ?_), hc1, hc2, rfl, ?_, ?_⟩
      · rcases hb with hb | hb
        · exact .inl (.inl hb)
        · exact .inr hb
      · exact (hag.block _ (Array.getElem?_eq_some_iff.1 hl).1 (.inl (.inr (.inr rfl)))).trans hl
      · exact (hag.block _ (Array.getElem?_eq_some_iff.1 hk).1 (.inl (.inr (.inl rfl)))).trans hk
    · -- ONE ROUND
      rintro k C' W hkN ⟨C, hi, hc1, hc2, rfl, hl, hk⟩ hCW
      have hlt : w.heap.size + 1 < W.heap.size := (Array.getElem?_eq_some_iff.1 hl).1
      have hy := run_yield (P := P) (args := encs k) hl (by rw [hrec]; exact hps k)
      rw [hrec] at hy
      refine ⟨fn, _, assign, body, hy, roundIn_of_wpIn hfn (hassign _ k W _ ⟨_, run_beginRound hl (by rw [hrec]), ?_⟩)⟩
      obtain ⟨Wb, hWb⟩ : ∃ Wb, W.putObj (w.heap.size + 1) (.loop { rec .ready none with state := .busy }) = Wb := ⟨_, rfl⟩
      rw [hWb]
      have hl2 : Wb.heap[w.heap.size + 1]? = some (.loop { rec .ready none with state := .busy }) := by rw [← hWb]; exact World.putObj_heap_same hlt
      have hk2 : Wb.heap[w.heap.size]? = some (.deferred (some [])) := by rw [← hWb]; exact (World.putObj_heap_other (by omega)).trans hk
      have hagb : Agrees (fun b => b ≠ w.heap.size + 1) W Wb := by rw [← hWb]; exact (Agrees.refl _ W).putObj (.inl (fun h => h rfl)) _
      have hszb : Wb.heap.size = W.heap.size := by rw [← hWb]; simp
      have hib : I k C Wb := hI _ _ _ _ hi (hagb.mono fun b hb hb' => by
        intro e; subst e
        rcases hb' with hb' | hb'
        · exact hc2 hb'
        · omega)
      refine wpIn_mono (hbody _ k C Wb hkN hib (fun b hb => by rw [hszb]; exact hCW b (.inl hb)) (by omega)) ?_
      have fin : ∀ (jump : Option Code) (W3 : World), Agrees (fun b => ¬ C b) Wb W3 →
          (Instr.endRound (w.heap.size + 1) jump).run P W3 = .ok (.bool jump.isNone) (W3.putObj (w.heap.size + 1) (.loop (rec (if jump.isNone then .ready else .done) jump))) ∧
          (W3.putObj (w.heap.size + 1) (.loop (rec (if jump.isNone then .ready else .done) jump))).heap[w.heap.size + 1]? = some (.loop (rec (if jump.isNone then .ready else .done) jump)) ∧
          (W3.putObj (w.heap.size + 1) (.loop (rec (if jump.isNone then .ready else .done) jump))).heap[w.heap.size]? = some (.deferred (some [])) ∧
          Agrees (fun b => b ≠ w.heap.size + 1) W3 (W3.putObj (w.heap.size + 1) (.loop (rec (if jump.isNone then .ready else .done) jump))) ∧ w.heap.size + 1 < W3.heap.size := fun jump W3 hag => by
        have hl3 : W3.heap[w.heap.size + 1]? = some (.loop { rec .ready none with state := .busy }) := (hag.block _ (by omega) hc2).trans hl2
        have hk3 : W3.heap[w.heap.size]? = some (.deferred (some [])) := (hag.block _ (by omega) hc1).trans hk2
        have hlt3 := (Array.getElem?_eq_some_iff.1 hl3).1
        have := run_endRound (P := P) jump hl3
        rw [hrec] at this ⊢
        exact ⟨this, World.putObj_heap_same hlt3, (World.putObj_heap_other (by omega)).trans hk3, (Agrees.refl _ W3).putObj (.inl (fun h => h rfl)) _, hlt3⟩
      have fin2 : ∀ (o : Obj) (W3 : World), Agrees (fun b => ¬ C b) Wb W3 →
          Agrees (fun b => ¬ (C b ∨ b = w.heap.size ∨ b = w.heap.size + 1)) W (W3.putObj (w.heap.size + 1) o) := fun o W3 hag => by
        refine ((hagb.mono (R' := fun b => ¬ (C b ∨ b = w.heap.size ∨ b = w.heap.size + 1)) fun b _ h e => h (.inr (.inr e))).trans
          (hag.mono fun b _ h h' => h (.inl h'))).putObj (.inl fun h => h (.inr (.inr rfl))) _
      rintro e a3 W3 hp
      cases e with
      | normal =>
        obtain ⟨hag, C', hi3, hC'⟩ := hp
        obtain ⟨hr, hl4, hk4, hag4, hlt3⟩ := fin none W3 hag
        have n1 : ¬ C' w.heap.size := fun h => (hC' _ h).2.elim hc1 (fun h => by omega)
        have n2 : ¬ C' (w.heap.size + 1) := fun h => (hC' _ h).2.elim hc2 (fun h => by omega)
        refine ⟨_, _, hr, .inl ⟨rfl, fin2 _ _ hag, _, ⟨C', hI _ _ _ _ hi3 (hag4.mono fun b hb hb' e => ?_), n1, n2, rfl, hl4, hk4⟩, fun b hb => ?_⟩⟩
        · subst e
          rcases hb' with hb' | hb'
          · exact n2 hb'
          · omega
        · rcases hb with hb | rfl | rfl
          · have := hC' b hb
            refine ⟨by simpa using this.1, ?_⟩
            rcases this.2 with h | h
            · exact .inl (.inl h)
            · exact .inr (by omega)
          · exact ⟨by simp; omega, .inl (.inr (.inl rfl))⟩
          · exact ⟨by simp; omega, .inl (.inr (.inr rfl))⟩
      | ret =>
        obtain ⟨hag, C', hi3, hC'⟩ := hp
        obtain ⟨hr, hl4, hk4, hag4, hlt3⟩ := fin (some .ret) W3 hag
        have n1 : ¬ C' w.heap.size := fun h => (hC' _ h).2.elim hc1 (fun h => by omega)
        have n2 : ¬ C' (w.heap.size + 1) := fun h => (hC' _ h).2.elim hc2 (fun h => by omega)
        refine ⟨_, _, hr, .inr ⟨rfl, fin2 _ _ hag, _, ⟨C', .ret, hIx _ _ _ _ _ hi3 (hag4.mono fun b hb hb' e => ?_), n1, n2, rfl, hl4, hk4⟩, fun b hb => ?_⟩⟩
        · subst e
          rcases hb' with hb' | hb'
          · exact n2 hb'
          · omega
        · rcases hb with hb | rfl | rfl
          · have := hC' b hb
            refine ⟨by simpa using this.1, ?_⟩
            rcases this.2 with h | h
            · exact .inl (.inl h)
            · exact .inr (by omega)
          · exact ⟨by simp; omega, .inl (.inr (.inl rfl))⟩
          · exact ⟨by simp; omega, .inl (.inr (.inr rfl))⟩
      | exit id =>
        obtain ⟨hag, C', hi3, hC'⟩ := hp
        obtain ⟨hr, hl4, hk4, hag4, hlt3⟩ := fin (some (.exit id)) W3 hag
        have n1 : ¬ C' w.heap.size := fun h => (hC' _ h).2.elim hc1 (fun h => by omega)
        have n2 : ¬ C' (w.heap.size + 1) := fun h => (hC' _ h).2.elim hc2 (fun h => by omega)
        refine ⟨_, _, hr, .inr ⟨rfl, fin2 _ _ hag, _, ⟨C', .exit id, hIx _ _ _ _ _ hi3 (hag4.mono fun b hb hb' e => ?_), n1, n2, rfl, hl4, hk4⟩, fun b hb => ?_⟩⟩
        · subst e
          rcases hb' with hb' | hb'
          · exact n2 hb'
          · omega
        · rcases hb with hb | rfl | rfl
          · have := hC' b hb
            refine ⟨by simpa using this.1, ?_⟩
            rcases this.2 with h | h
            · exact .inl (.inl h)
            · exact .inr (by omega)
          · exact ⟨by simp; omega, .inl (.inr (.inl rfl))⟩
          · exact ⟨by simp; omega, .inl (.inr (.inr rfl))⟩
      | goto t =>
        obtain ⟨hag, C', hi3, hC'⟩ := hp
        obtain ⟨hr, hl4, hk4, hag4, hlt3⟩ := fin (some (.goto t)) W3 hag
        have n1 : ¬ C' w.heap.size := fun h => (hC' _ h).2.elim hc1 (fun h => by omega)
        have n2 : ¬ C' (w.heap.size + 1) := fun h => (hC' _ h).2.elim hc2 (fun h => by omega)
        refine ⟨_, _, hr, .inr ⟨rfl, fin2 _ _ hag, _, ⟨C', .goto t, hIx _ _ _ _ _ hi3 (hag4.mono fun b hb hb' e => ?_), n1, n2, rfl, hl4, hk4⟩, fun b hb => ?_⟩⟩
        · subst e
          rcases hb' with hb' | hb'
          · exact n2 hb'
          · omega
        · rcases hb with hb | rfl | rfl
          · have := hC' b hb
            refine ⟨by simpa using this.1, ?_⟩
            rcases this.2 with h | h
            · exact .inl (.inl h)
            · exact .inr (by omega)
          · exact ⟨by simp; omega, .inl (.inr (.inl rfl))⟩
          · exact ⟨by simp; omega, .inl (.inr (.inr rfl))⟩
      | panic ch => exact hp.elim
      | outgrown => exact hp.elim
    · -- BEHIND THE ITERATOR
      rintro e W2 ⟨⟨v, rfl⟩, C', (⟨C, hi, hc1, hc2, rfl, hl, hk⟩ | ⟨k, hkN, C, c, hi, hc1, hc2, rfl, hl, hk⟩)⟩
      · have hag : Agrees (fun b => b ≠ w.heap.size + 1) W2 (W2.putObj (w.heap.size + 1) (.loop { rec .ready none with state := .exhausted })) := (Agrees.refl _ W2).putObj (.inl (fun h => h rfl)) _
        refine ⟨none, _, by have := run_endLoop (P := P) hl (by rw [hrec]; simp); rw [hrec] at this ⊢; exact this, hdone w.heap.size C _ (Nat.le_refl _) (hI _ _ _ _ hi (hag.mono fun b hb hb' e => ?_)) ((World.putObj_heap_other (by omega)).trans hk) hc1⟩
        subst e
        rcases hb' with hb' | hb'
        · exact hc2 hb'
        · omega
      · have hag : Agrees (fun b => b ≠ w.heap.size + 1) W2 (W2.putObj (w.heap.size + 1) (.loop { rec .done (some c) with state := .exhausted })) := (Agrees.refl _ W2).putObj (.inl (fun h => h rfl)) _
        refine ⟨some c, _, by have := run_endLoop (P := P) hl (by rw [hrec]; simp); rw [hrec] at this ⊢; exact this, (wpIn_wide (n := 0)).2 (hstop w.heap.size k c C _ (Nat.le_refl _) hkN (hIx c _ _ _ _ hi (hag.mono fun b hb hb' e => ?_)) ((World.putObj_heap_other (by omega)).trans hk) hc1)⟩
        subst e
        rcases hb' with hb' | hb'
        · exact hc2 hb'
        · omega

end Suture
/-
  WHAT A SLICE READS AS (no program).
  Conditions: none beyond each theorem's own.
-/
namespace Suture
open Go Go.RowKit

/-- a slice of one-cell elements reads as xs; its block is one of R -/
def SliceAt (R : Nat → Prop) (w : World) (v : Value) (xs : List Value) : Prop :=
  ∃ a n cap, v = .slice a n cap ∧ xs.length = n ∧ (n ≤ 9223372036854775807 ∧ n ≤ cap) ∧
    ∀ i x, xs[i]? = some x → ∃ b off, a = some ⟨b, off, none⟩ ∧ R b ∧ b < w.heap.size ∧ w.cell? ⟨b, off + i, none⟩ = some x

theorem SliceAt.agrees {R S : Nat → Prop} {w w' : World} {v : Value} {xs : List Value} (h : SliceAt R w v xs) (hag : Agrees S w w') (hS : ∀ b, R b → S b) : SliceAt R w' v xs := by
  obtain ⟨a, n, cap, hv, hn, hb, hc⟩ := h
  refine ⟨a, n, cap, hv, hn, hb, fun i x hx => ?_⟩
  obtain ⟨b, off, ha, hRb, hlt, hcell⟩ := hc i x hx
  exact ⟨b, off, ha, hRb, Nat.lt_of_lt_of_le hlt hag.size, (hag.cell (p := ⟨b, off + i, none⟩) hlt (hS b hRb)).trans hcell⟩
theorem SliceAt.mono {R S : Nat → Prop} {w : World} {v : Value} {xs : List Value} (h : SliceAt R w v xs) (hS : ∀ b, R b → S b) : SliceAt S w v xs := by
  obtain ⟨a, n, cap, hv, hn, hb, hc⟩ := h
  refine ⟨a, n, cap, hv, hn, hb, fun i x hx => ?_⟩
  obtain ⟨b, off, ha, hRb, hlt, hcell⟩ := hc i x hx
  exact ⟨b, off, ha, hS b hRb, hlt, hcell⟩

theorem SliceAt.bound {R : Nat → Prop} {w : World} {v : Value} {xs : List Value} (h : SliceAt R w v xs) : SliceAt (fun b => b < w.heap.size) w v xs := by
  obtain ⟨a, n, cap, hv, hn, hb, hc⟩ := h
  refine ⟨a, n, cap, hv, hn, hb, fun i x hx => ?_⟩
  obtain ⟨b, off, ha, _, hlt, hcell⟩ := hc i x hx
  exact ⟨b, off, ha, hlt, hlt, hcell⟩

/-- a slice of bytes -/
def BytesAt (R : Nat → Prop) (w : World) (v : Value) (bs : List (BitVec 8)) : Prop := SliceAt R w v (bs.map B)
/-- a slice of slices of bytes -/
def PartsAt (R : Nat → Prop) (w : World) (v : Value) (parts : List (List (BitVec 8))) : Prop :=
  ∃ vs : List Value, SliceAt R w v vs ∧ vs.length = parts.length ∧ ∀ (i : Nat) (x : Value) (p : List (BitVec 8)), vs[i]? = some x → parts[i]? = some p → BytesAt R w x p

theorem BytesAt.agrees {R S : Nat → Prop} {w w' : World} {v : Value} {xs : List (BitVec 8)} (h : BytesAt R w v xs) (hag : Agrees S w w') (hS : ∀ b, R b → S b) : BytesAt R w' v xs :=
  SliceAt.agrees h hag hS
theorem PartsAt.agrees {R S : Nat → Prop} {w w' : World} {v : Value} {xs : List (List (BitVec 8))} (h : PartsAt R w v xs) (hag : Agrees S w w') (hS : ∀ b, R b → S b) : PartsAt R w' v xs := by
  obtain ⟨vs, h1, h2, h3⟩ := h
  exact ⟨vs, h1.agrees hag hS, h2, fun i x p hx hp => (h3 i x p hx hp).agrees hag hS⟩
theorem PartsAt.mono {R S : Nat → Prop} {w : World} {v : Value} {xs : List (List (BitVec 8))} (h : PartsAt R w v xs) (hS : ∀ b, R b → S b) : PartsAt S w v xs := by
  obtain ⟨vs, h1, h2, h3⟩ := h
  exact ⟨vs, h1.mono hS, h2, fun i x p hx hp => SliceAt.mono (h3 i x p hx hp) hS⟩

/-- the walk's own words at a place: an element's cell -/
theorem BytesAt.at {R : Nat → Prop} {w : World} {a : Option Addr} {n cap : Nat} {bs : List (BitVec 8)} (h : BytesAt R w (.slice a n cap) bs) :
    bs.length = n ∧ n ≤ 9223372036854775807 ∧ ∀ i, i < n → ∃ b off, a = some ⟨b, off, none⟩ ∧ R b ∧ b < w.heap.size ∧ w.cell? ⟨b, off + i, none⟩ = some (B (bs.getD i 0)) := by
  obtain ⟨a', n', cap', hv, hn, hb, hc⟩ := h
  cases hv
  rw [List.length_map] at hn
  refine ⟨hn, hb.1, fun i hi => ?_⟩
  obtain ⟨b, off, ha, hRb, hlt, hcell⟩ := hc i (B (bs.getD i 0)) (by rw [List.getElem?_map, List.getD_eq_getElem?_getD, List.getElem?_eq_getElem (by omega)]; rfl)
  exact ⟨b, off, ha, hRb, hlt, hcell⟩
theorem PartsAt.at {R : Nat → Prop} {w : World} {a : Option Addr} {n cap : Nat} {parts : List (List (BitVec 8))} (h : PartsAt R w (.slice a n cap) parts) :
    parts.length = n ∧ n ≤ 9223372036854775807 ∧ ∀ i, i < n → ∃ b off a' n' cap', a = some ⟨b, off, none⟩ ∧ R b ∧ b < w.heap.size ∧ w.cell? ⟨b, off + i, none⟩ = some (.slice a' n' cap') ∧ BytesAt R w (.slice a' n' cap') (parts.getD i []) := by
  obtain ⟨vs, ⟨a', n', cap', hv, hn, hb, hc⟩, hlen, hp⟩ := h
  cases hv
  refine ⟨by omega, hb.1, fun i hi => ?_⟩
  have h1 : vs[i]? = some (vs.getD i undef) := by rw [List.getD_eq_getElem?_getD, List.getElem?_eq_getElem (by omega)]; rfl
  have h2 : parts[i]? = some (parts.getD i []) := by rw [List.getD_eq_getElem?_getD, List.getElem?_eq_getElem (by omega)]; rfl
  obtain ⟨b, off, ha, hRb, hlt, hcell⟩ := hc i _ h1
  have hB := hp i _ _ h1 h2
  obtain ⟨a2, n2, c2, he, _⟩ := hB
  have hB := hp i _ _ h1 h2
  rw [he] at hB hcell
  exact ⟨b, off, a2, n2, c2, ha, hRb, hlt, hcell, hB⟩

theorem BytesAt.cap {R : Nat → Prop} {w : World} {a : Option Addr} {n cap : Nat} {bs : List (BitVec 8)} (h : BytesAt R w (.slice a n cap) bs) : n ≤ cap := by
  obtain ⟨a', n', cap', hv, hn, hb, hc⟩ := h
  cases hv
  exact hb.2
theorem BytesAt.len {R : Nat → Prop} {w : World} {a : Option Addr} {n cap : Nat} {bs : List (BitVec 8)} (h : BytesAt R w (.slice a n cap) bs) : bs.length = n := h.at.1

theorem BytesAt.bound {R : Nat → Prop} {w : World} {v : Value} {bs : List (BitVec 8)} (h : BytesAt R w v bs) : BytesAt (fun b => b < w.heap.size) w v bs := SliceAt.bound h

/-- the address of a slice's part -/
def slA (a : Option Addr) (l cap : Nat) : Option Addr := if cap = l then a else a.map (·.add l)
theorem BytesAt.slice {R : Nat → Prop} {w : World} {a : Option Addr} {n cap : Nat} {bs : List (BitVec 8)} (h : BytesAt R w (.slice a n cap) bs) (l u : Nat) (h1 : l ≤ u) (h2 : u ≤ n) :
    BytesAt R w (.slice (slA a l cap) (u - l) (cap - l)) ((bs.drop l).take (u - l)) := by
  obtain ⟨a', n', cap', hv, hn, hb, hc⟩ := h
  cases hv
  rw [List.length_map] at hn
  refine ⟨_, _, _, rfl, by simp; omega, by omega, fun i x hx => ?_⟩
  have hi : i < u - l := by
    have := (List.getElem?_eq_some_iff.1 hx).1
    simp at this; omega
  rw [List.getElem?_map, List.getElem?_take_of_lt hi, List.getElem?_drop, ← List.getElem?_map] at hx
  obtain ⟨b, off, ha, hRb, hlt, hcell⟩ := hc _ x hx
  subst ha
  refine ⟨b, off + l, ?_, hRb, hlt, by rw [Nat.add_assoc]; exact hcell⟩
  unfold slA
  rw [if_neg (by omega)]
  show some ((⟨b, off, none⟩ : Addr).add l) = _
  congr 1
  unfold Addr.add
  split <;> simp_all

theorem flat_take_succ {α : Type} (parts : List (List α)) (i : Nat) (h : i < parts.length) :
    (parts.take (i + 1)).flatten.length = (parts.take i).flatten.length + (parts.getD i []).length := by
  rw [List.take_succ_eq_append_getElem h, List.flatten_append, List.length_append]
  simp [List.getD_eq_getElem?_getD, List.getElem?_eq_getElem h]
theorem flat_get {α : Type} (d : α) (parts : List (List α)) (i j : Nat) (h : i < parts.length) (hj : j < (parts.getD i []).length) :
    parts.flatten.getD ((parts.take i).flatten.length + j) d = (parts.getD i []).getD j d := by
  have e : parts.getD i [] = parts[i] := by rw [List.getD_eq_getElem?_getD, List.getElem?_eq_getElem h]; rfl
  rw [e] at hj ⊢
  have e2 : parts.flatten = (parts.take i).flatten ++ (parts[i] ++ (parts.drop (i + 1)).flatten) := by
    have e3 : parts = parts.take i ++ parts[i] :: parts.drop (i + 1) := by rw [List.getElem_cons_drop, List.take_append_drop]
    have := congrArg List.flatten e3
    rwa [List.flatten_append, List.flatten_cons] at this
  rw [e2, List.getD_eq_getElem?_getD, List.getElem?_append_right (by omega), Nat.add_sub_cancel_left, List.getElem?_append_left hj, ← List.getD_eq_getElem?_getD]
theorem flat_take_le {α : Type} (parts : List (List α)) (i : Nat) (h : i < parts.length) : (parts.take i).flatten.length + (parts.getD i []).length ≤ parts.flatten.length := by
  rw [← flat_take_succ parts i h]
  have : parts.flatten = (parts.take (i + 1)).flatten ++ (parts.drop (i + 1)).flatten := by rw [← List.flatten_append, List.take_append_drop]
  rw [this, List.length_append]; omega
end Suture
/-
  WHOLE ARRAYS AND STRUCTS AT ONE STEP (no program): load, store, a new variable, an element; for the walk and for the walk in a round.
  Conditions: none beyond each theorem's own.
-/
namespace Suture
open Go Go.RowKit

section
variable {P : Program} {ops : Array Oper} {rest : List Oper} {o : Oper} {a : Act} {w w' : World} {Q : Exit → Act → World → Prop} {v : Value}

theorem wpList_val (hw : Region.wanted o (yielded ops a.tmps) = true) (h : (execOp a.eval o).run P w = .ok (.value v) w') (k : wpList P ops Q rest (a.put o.dst v) w') :
    wpList P ops Q (o :: rest) a w := by
  unfold wpList
  rw [if_pos hw]
  refine .inl ?_
  unfold Oper.wp
  rw [h]
  exact k
theorem wpList_unit (hw : Region.wanted o (yielded ops a.tmps) = true) (h : (execOp a.eval o).run P w = .ok .skip w') (k : wpList P ops Q rest (a.put o.dst undef) w') :
    wpList P ops Q (o :: rest) a w := by
  unfold wpList
  rw [if_pos hw]
  refine .inl ?_
  unfold Oper.wp
  rw [h]
  exact k

theorem wpListIn_val {F : Fence} {n : Nat} (hF : ∀ f, F.fn f) (hs : o.semAt F.round a.eval = execOp a.eval o) (hw : Region.wanted o (yielded ops a.tmps) = true) (h : (execOp a.eval o).run P w = .ok (.value v) w')
    (k : wpListIn F n P ops Q rest (a.put o.dst v) w') : wpListIn F n P ops Q (o :: rest) a w := by
  unfold wpListIn
  rw [if_pos hw]
  refine ⟨fun f _ => hF f, ?_⟩
  rw [hs, h]
  exact k
theorem wpListIn_unit {F : Fence} {n : Nat} (hF : ∀ f, F.fn f) (hs : o.semAt F.round a.eval = execOp a.eval o) (hw : Region.wanted o (yielded ops a.tmps) = true) (h : (execOp a.eval o).run P w = .ok .skip w')
    (k : wpListIn F n P ops Q rest (a.put o.dst undef) w') : wpListIn F n P ops Q (o :: rest) a w := by
  unfold wpListIn
  rw [if_pos hw]
  refine ⟨fun f _ => hF f, ?_⟩
  rw [hs, h]
  exact k

/-- the kinds of types whose values are rows of cells -/
def IsAgg (P : Program) (ty : TypeId) (n : Nat) : Prop := (∃ d, P.underlying ty = some d ∧ (match d with | .struct _ | .array _ _ => true | _ => false) = true) ∧ (P.info? ty).map (·.size) = some n

theorem addr_add (b off j : Nat) : (⟨b, off, none⟩ : Addr).add j = ⟨b, off + j, none⟩ := by unfold Addr.add; split <;> simp_all

theorem run_loadVar_agg {ty : TypeId} {n : Nat} (hA : IsAgg P ty n) (b off : Nat) (vs : Array Value) (hn : vs.size = n) (hc : ∀ j, j < n → w.cell? ⟨b, off + j, none⟩ = vs[j]?) :
    (loadVar ty ⟨b, off, none⟩).run P w = .ok (.agg vs) w := by
  obtain ⟨⟨d, hu, hd⟩, hi⟩ := hA
  have hl : (loadCells ⟨b, off, none⟩ vs.toList.length).run P w = .ok vs.toList.toArray w :=
    run_loadCells_list (P := P) w ⟨b, off, none⟩ vs.toList (fun j v hv => by
      rw [addr_add]
      have hj : j < n := by rw [← hn]; simpa using (List.getElem?_eq_some_iff.1 hv).1
      rw [hc j hj]; simpa using hv)
  cases hq : P.info? ty with
  | none => simp [hq] at hi
  | some i =>
    have hs : i.size = vs.size := by simpa [hq, hn] using hi
    have hagg : (isAgg ty).run P w = .ok true w := by
      unfold isAgg
      rw [Sem.run_bind, run_underlying hu w]
      cases d <;> simp_all
    simp only [Array.length_toList, Array.toArray_toList] at hl
    simp [loadVar, Sem.run_bind, hagg, Go.sizeOf, typeInfo, hq, hs, hl]

theorem ex_load {ty : TypeId} {x : Operand} {n : Nat} (ho : o.op = .load ty x) (hA : IsAgg P ty n) (b off : Nat) (hx : a.eval x = .pointer (some ⟨b, off, none⟩)) (vs : Array Value) (hn : vs.size = n)
    (hc : ∀ j, j < n → w.cell? ⟨b, off + j, none⟩ = vs[j]?) : (execOp a.eval o).run P w = .ok (.value (.agg vs)) w := by
  unfold execOp
  simp only [ho, hx, Instr.loadAt, Instr.sureAddr, Sem.run_bind, Sem.run_pure, Result.andThen_ok, run_loadVar_agg hA b off vs hn hc]

theorem run_storeVar_row {ty t : TypeId} {n : Nat} (hi : (P.info? ty).map (·.size) = some n) (b off : Nat) (vs cur : Array Value) (hn : vs.size = n) (hg : w.heap[b]? = some (.cells cur t (0, 0))) (hfit : off + n ≤ cur.size)
    (h1 : ∀ v ∈ vs, v.oneCell' = true) :
    (storeVar ty ⟨b, off, none⟩ (.agg vs)).run P w = .ok () (w.setRow b (cur.toList.take off ++ vs.toList ++ cur.toList.drop (off + n)).toArray) := by
  have h := run_storeCells_at P b off t vs.toList 0 cur w hg (by simp; omega) (fun v hv => h1 v (by simpa using hv))
  cases hq : P.info? ty with
  | none => simp [hq] at hi
  | some i =>
    have hs : i.size = n := by simpa [hq] using hi
    simp only [Nat.add_zero] at h
    simp [storeVar, Sem.run_bind, Go.sizeOf, typeInfo, hq, hs, Value.cells, hn, h]

theorem ex_store {ty t : TypeId} {x y : Operand} {n : Nat} (ho : o.op = .store ty x y) (hi : (P.info? ty).map (·.size) = some n) (b off : Nat) (hx : a.eval x = .pointer (some ⟨b, off, none⟩)) (vs cur : Array Value) (hy : a.eval y = .agg vs)
    (hn : vs.size = n) (hg : w.heap[b]? = some (.cells cur t (0, 0))) (hfit : off + n ≤ cur.size) (h1 : ∀ v ∈ vs, v.oneCell' = true) :
    (execOp a.eval o).run P w = .ok .skip (w.setRow b (cur.toList.take off ++ vs.toList ++ cur.toList.drop (off + n)).toArray) := by
  unfold execOp
  simp only [ho, hx, hy, Instr.storeAt, Instr.sureAddr, Sem.run_bind, Sem.run_pure, Result.andThen_ok, run_storeVar_row hi b off vs cur hn hg hfit h1]

theorem setRow_all (w : World) (b : Nat) (vs cur : Array Value) (hn : vs.size = cur.size) :
    w.setRow b (cur.toList.take 0 ++ vs.toList ++ cur.toList.drop (0 + vs.size)).toArray = w.setRow b vs := by
  rw [List.take_zero, List.nil_append, Nat.zero_add, hn, List.drop_of_length_le (by simp), List.append_nil, Array.toArray_toList]

/-- a new variable -/
theorem ex_alloc {E : TypeId} (ho : o.op = .alloc E) (z : Value) (hz : ∀ w, (zeroValue E).run P w = .ok z w) :
    (execOp a.eval o).run P w = .ok (.value (.pointer (some ⟨w.heap.size, 0, none⟩))) (w.alloc (.cells z.cells E)) := by
  unfold execOp
  simp only [ho, Instr.alloc, newVar, newRow, Sem.run_bind, hz, Result.andThen_ok, newObj, Sem.run, Sem.run_pure]
  rfl
theorem ex_box {E : TypeId} {x : Operand} (ho : o.op = .box E x) :
    (execOp a.eval o).run P w = .ok (.value (.pointer (some ⟨w.heap.size, 0, none⟩))) (w.alloc (.cells (a.eval x).cells E)) := by
  unfold execOp
  simp only [ho, Instr.box, newVar, newRow, Sem.run_bind, newObj, Sem.run, Sem.run_pure, Result.andThen_ok]
  rfl

/-- a part of a slice, its elements one cell wide -/
theorem run_sl {T E : TypeId} (hu : P.underlying T = some (.slice E)) (hs : (P.info? E).map (·.size) = some 1) (a : Option Addr) (n cap : Nat) (lo hi : Option Value) (l h : Nat)
    (hlo : lo = some (.int .i64 l) ∨ (lo = none ∧ l = 0)) (hhi : hi = some (.int .i64 h) ∨ (hi = none ∧ h = n)) (h1 : l ≤ h) (h2 : h ≤ cap) (w : World) :
    (Instr.sliceAt T (.slice a n cap) lo hi none).run P w = .ok (.slice (slA a l cap) (h - l) (cap - l)) w := by
  cases hq : P.info? E with
  | none => simp [hq] at hs
  | some inf =>
    have hsz : inf.size = 1 := by simpa [hq] using hs
    have hb : (Instr.sliceBounds true n cap lo hi none).run P w = .ok (l, h, cap) w := by
      have b1 : ∀ code, (Instr.sliceBound (.int .i64 h) cap code).run P w = .ok h w := fun code => by
        rw [run_sliceBound w _ _ _ _ (by omega) (by omega)]; rfl
      have b2 : ∀ code, (Instr.sliceBound (.int .i64 l) h code).run P w = .ok l w := fun code => by
        rw [run_sliceBound w _ _ _ _ (by omega) (by omega)]; rfl
      rcases hlo with rfl | ⟨rfl, rfl⟩ <;> rcases hhi with rfl | ⟨rfl, rfl⟩ <;> simp [Instr.sliceBounds, Sem.run_bind, b1, b2]
    simp [Instr.sliceAt, Instr.slice, run_underlying hu, Sem.run_bind, hb, Go.sizeOf, typeInfo, hq, hsz, slA]
theorem ex_slice {T E : TypeId} {x : Operand} {lo hi : Option Operand} (ho : o.op = .slice T x lo hi none) (hu : P.underlying T = some (.slice E)) (hs : (P.info? E).map (·.size) = some 1) (ad : Option Addr) (n cap : Nat) (l h : Nat)
    (hx : a.eval x = .slice ad n cap) (hlo : lo.map a.eval = some (.int .i64 l) ∨ (lo.map a.eval = none ∧ l = 0)) (hhi : hi.map a.eval = some (.int .i64 h) ∨ (hi.map a.eval = none ∧ h = n)) (h1 : l ≤ h) (h2 : h ≤ cap) :
    (execOp a.eval o).run P w = .ok (.value (.slice (slA ad l cap) (h - l) (cap - l))) w := by
  unfold execOp
  simp only [ho, hx, Option.map_none, Sem.run_bind, run_sl hu hs ad n cap _ _ l h hlo hhi h1 h2 w, Result.andThen_ok]
  rfl
theorem eval_tmp {t : Tmp} {v : Value} (e : a.tmps[t]? = some v) : a.eval (.tmp t) = v := by simp [Act.eval, e]

/-- an element of an array's value, one cell wide -/
theorem ex_index1 {T E : TypeId} {x y : Operand} {k : IntKind} {len : Nat} (ho : o.op = .index T x y) (hu : P.underlying T = some (.array len E)) (hE : ∀ cs i v, cs[i]? = some v → (part E cs i).run P w = .ok v w)
    (hs : (P.info? E).map (·.size) = some 1) (vs : Array Value) (hx : a.eval x = .agg vs) (i : Int) (hy : a.eval y = .int k i) (h0 : 0 ≤ i) (hl : i < len) (v : Value) (hv : vs[i.toNat]? = some v) :
    (execOp a.eval o).run P w = .ok (.value v) w := by
  cases hq : P.info? E with
  | none => simp [hq] at hs
  | some inf =>
    have hsz : inf.size = 1 := by simpa [hq] using hs
    unfold execOp
    simp [ho, hx, hy, Instr.index, asIntOf, run_underlying hu, Sem.run_bind, h0, hl, Go.sizeOf, typeInfo, hq, hsz, hE vs i.toNat v hv]
end
end Suture
/-
  A REGION THAT DRAWS ITS ORDER, BY A PLAN (no program): what each operation's value is good for, and what holds of the world, whatever has been carried out so far.
  Conditions: none beyond each theorem's own.
-/
namespace Suture
open Go Go.RowKit

def setL (L : Nat → Bool) (i : Nat) : Nat → Bool := fun j => if j = i then true else L j
def updV (vals : Nat → Value) (i : Nat) (v : Value) : Nat → Value := fun j => if j = i then v else vals j

/-- the value in the slot of operation i -/
def slotV (ops : Array Oper) (a : Act) (i : Nat) : Value :=
  match (ops[i]?).bind (·.dst) with
  | some t => a.tmps.getD t undef
  | none => undef

/-- no two operations write one slot, and each slot is there -/
def planOk (ops : Array Oper) (size : Nat) : Bool :=
  (List.range ops.size).all fun i => (match (ops[i]?).bind (·.dst) with | some t => decide (t < size) | none => true) &&
    (List.range i).all fun j => match (ops[i]?).bind (·.dst), (ops[j]?).bind (·.dst) with | some t, some u => t != u | _, _ => true
/-- every edge that binds leads back -/
def planBack (ops : Array Oper) : Bool :=
  (List.range ops.size).all fun i => match ops[i]? with | some o => o.after.toList.all fun e => !Region.binds .any e || decide (e.on < i) | none => true

structure Slots (ops : Array Oper) (a0 : Act) (V : Nat → Value → Prop) (L : Nat → Bool) (a : Act) : Prop where
  defers : a.defers = a0.defers
  size : a.tmps.size = a0.tmps.size
  keep : ∀ t, (∀ i o, ops[i]? = some o → o.dst = some t → L i = false) → a.tmps[t]? = a0.tmps[t]?
  val : ∀ i o t, ops[i]? = some o → o.dst = some t → L i = true → ∃ v, a.tmps[t]? = some v ∧ V i v
  closed : ∀ i o, ops[i]? = some o → L i = true → ∀ e ∈ o.after, Region.binds .any e = true → L e.on = true

/-- what an operation comes to -/
def OpTo (P : Program) (ops : Array Oper) (o : Oper) (a : Act) (w : World) (R : Value → World → Prop) : Prop :=
  if Region.wanted o (yielded ops a.tmps) then
    match (execOp a.eval o).run P w with
    | .ok (.value v) w' => R v w'
    | .ok .skip w' => R undef w'
    | .ok (.enter f args) w' => Calls P f args w' fun e w'' => ∃ v, e = .returned v ∧ R v w''
    | .ok (.round l f tmps assign body) w' => RoundIn Fence.wide 0 P l f tmps assign body w' fun e w'' => ∃ v, e = .returned v ∧ R v w''
    | _ => False
  else R undef w

theorem getD_both' {listed : Array Bool} {i : Nat} (h : listed.getD i true = false) : listed.getD i false = false := by
  rcases Nat.lt_or_ge i listed.size with h' | h'
  · simp [h'] at h ⊢; exact h
  · simp [Array.getElem?_eq_none h'] at h
theorem getD_in' {listed : Array Bool} {i : Nat} (hi : i < listed.size) (h : listed.getD i false = false) : listed.getD i true = false := by
  simp [hi] at h ⊢; exact h
theorem filter_ne_lt (l : List Nat) (i : Nat) (h : i ∈ l) : (l.filter fun j => decide (j ≠ i)).length < l.length := by
  refine Nat.lt_of_le_of_ne (List.length_filter_le _ _) (fun e => ?_)
  have := List.length_filter_eq_length_iff.1 e i h
  simp at this

section
variable {P : Program} {ops : Array Oper} {a0 : Act} {V : Nat → Value → Prop} {WI : (Nat → Bool) → (Nat → Value) → World → Prop} {Q : Exit → Act → World → Prop}

theorem planOk_size {size : Nat} (h : planOk ops size = true) {i : Nat} {o : Oper} {t : Tmp} (hi : ops[i]? = some o) (ht : o.dst = some t) : t < size := by
  have hlt := (Array.getElem?_eq_some_iff.1 hi).1
  have := List.all_eq_true.1 h i (List.mem_range.2 hlt)
  rw [Bool.and_eq_true] at this
  have h1 := this.1
  rw [hi] at h1
  simpa [ht] using h1
theorem planOk_ne {size : Nat} (h : planOk ops size = true) {i j : Nat} {o o' : Oper} {t : Tmp} (hi : ops[i]? = some o) (ht : o.dst = some t) (hj : ops[j]? = some o') (hu : o'.dst = some t) : i = j := by
  have key : ∀ {i j : Nat} {o o' : Oper}, ops[i]? = some o → o.dst = some t → ops[j]? = some o' → o'.dst = some t → ¬ j < i := by
    intro i j o o' hi ht hj hu hlt
    have hil := (Array.getElem?_eq_some_iff.1 hi).1
    have := List.all_eq_true.1 h i (List.mem_range.2 hil)
    rw [Bool.and_eq_true] at this
    have h2 := List.all_eq_true.1 this.2 j (List.mem_range.2 hlt)
    rw [hi, hj] at h2
    simp [ht, hu] at h2
  have := key hi ht hj hu
  have := key hj hu hi ht
  omega
theorem planBack_lt (h : planBack ops = true) {i : Nat} {o : Oper} (hi : ops[i]? = some o) : ∀ e ∈ o.after, Region.binds .any e = true → e.on < i := by
  intro e he hb
  have hil := (Array.getElem?_eq_some_iff.1 hi).1
  have := List.all_eq_true.1 h i (List.mem_range.2 hil)
  rw [hi] at this
  have := List.all_eq_true.1 this e (Array.mem_toList_iff.2 he)
  simpa [hb] using this

theorem setL_false {L : Nat → Bool} {i j : Nat} (h : setL L i j = false) : L j = false := by
  unfold setL at h
  split at h
  · cases h
  · exact h
theorem slotV_none {a : Act} {j : Nat} (h : ops[j]? = none) : slotV ops a j = undef := by unfold slotV; rw [h]; rfl
theorem slotV_nodst {a : Act} {j : Nat} {o : Oper} (h : ops[j]? = some o) (hd : o.dst = none) : slotV ops a j = undef := by unfold slotV; rw [h]; simp [hd]
theorem slotV_some {a : Act} {j : Nat} {o : Oper} {t : Tmp} (h : ops[j]? = some o) (hd : o.dst = some t) : slotV ops a j = a.tmps.getD t undef := by unfold slotV; rw [h]; simp [hd]

theorem Slots.put (hok : planOk ops a0.tmps.size = true) {L : Nat → Bool} {a : Act} (st : Slots ops a0 V L a) {i : Nat} {o : Oper} {v : Value} (hi : ops[i]? = some o) (hL : L i = false)
    (hd : ∀ e ∈ o.after, Region.binds .any e = true → L e.on = true) (hv : V i v) : Slots ops a0 V (setL L i) (a.put o.dst v) := by
  refine ⟨?_, ?_, ?_, ?_, ?_⟩
  · cases ho : o.dst <;> simp [Act.put, st.defers]
  · cases ho : o.dst <;> simp [Act.put, st.size]
  · intro t ht
    have hne : o.dst ≠ some t := fun e => by have := ht i o hi e; simp [setL] at this
    have hk := st.keep t (fun j oj hj hdj => setL_false (ht j oj hj hdj))
    cases ho : o.dst with
    | none => simpa [Act.put] using hk
    | some u =>
      have : u ≠ t := fun e => hne (by rw [ho, e])
      simp only [Act.put]
      rw [Array.getElem?_setIfInBounds_ne this]; exact hk
  · intro j oj t hj hdj hLj
    by_cases hji : j = i
    · subst hji
      have e : oj = o := Option.some.inj (hj.symm.trans hi)
      subst e
      refine ⟨v, ?_, hv⟩
      rw [hdj]
      simp only [Act.put]
      have := planOk_size hok hj hdj
      rw [Array.getElem?_setIfInBounds_self_of_lt (by rw [st.size]; exact this)]
    · have hLj' : L j = true := by simpa [setL, hji] using hLj
      obtain ⟨u, hu, hVu⟩ := st.val j oj t hj hdj hLj'
      refine ⟨u, ?_, hVu⟩
      cases ho : o.dst with
      | none => simpa [Act.put] using hu
      | some s =>
        have : s ≠ t := fun e => hji (planOk_ne hok hj hdj hi (by rw [ho, e]))
        simp only [Act.put]
        rw [Array.getElem?_setIfInBounds_ne this]; exact hu
  · intro j oj hj hLj e he hb
    by_cases hji : j = i
    · subst hji
      have e' : oj = o := Option.some.inj (hj.symm.trans hi)
      subst e'
      have := hd e he hb
      unfold setL; split
      · rfl
      · exact this
    · have hLj' : L j = true := by simpa [setL, hji] using hLj
      have := st.closed j oj hj hLj' e he hb
      unfold setL; split
      · rfl
      · exact this

theorem slotV_put (hok : planOk ops a0.tmps.size = true) {a : Act} (hs : a.tmps.size = a0.tmps.size) {i : Nat} {o : Oper} {v : Value} (hi : ops[i]? = some o) (hvn : o.dst = none → v = undef) :
    slotV ops (a.put o.dst v) = updV (slotV ops a) i v := by
  funext j
  show _ = if j = i then v else slotV ops a j
  cases hj : ops[j]? with
  | none =>
    have : j ≠ i := fun e => by subst e; rw [hi] at hj; cases hj
    rw [if_neg this, slotV_none hj, slotV_none hj]
  | some oj =>
    by_cases hji : j = i
    · subst hji
      have e : oj = o := Option.some.inj (hj.symm.trans hi)
      subst e
      rw [if_pos rfl]
      cases ho : oj.dst with
      | none => rw [slotV_nodst hj ho, hvn ho]
      | some t =>
        have := planOk_size hok hj ho
        rw [slotV_some hj ho]
        simp [Act.put, hs, this]
    · rw [if_neg hji]
      cases hd : oj.dst with
      | none => rw [slotV_nodst hj hd, slotV_nodst hj hd]
      | some t =>
        rw [slotV_some hj hd, slotV_some hj hd]
        cases ho : o.dst with
        | none => simp [Act.put]
        | some s =>
          have : s ≠ t := fun e => hji (planOk_ne hok hj hd hi (by rw [ho, e]))
          simp [Act.put, Array.getElem?_setIfInBounds_ne this]

/-- all slots written, in the text's order -/
def putAll (a : Act) (vals : Nat → Value) : Nat → List Oper → Act
  | _, [] => a
  | i, o :: rest => putAll (a.put o.dst (vals i)) vals (i + 1) rest

theorem putAll_defers (vals : Nat → Value) : ∀ (l : List Oper) (i : Nat) (a : Act), (putAll a vals i l).defers = a.defers
  | [], _, _ => rfl
  | o :: l, i, a => by rw [putAll, putAll_defers vals l]; cases o.dst <;> simp [Act.put]
theorem putAll_size (vals : Nat → Value) : ∀ (l : List Oper) (i : Nat) (a : Act), (putAll a vals i l).tmps.size = a.tmps.size
  | [], _, _ => rfl
  | o :: l, i, a => by rw [putAll, putAll_size vals l]; cases o.dst <;> simp [Act.put]
theorem putAll_other (vals : Nat → Value) (t : Tmp) : ∀ (l : List Oper) (i : Nat) (a : Act), (∀ o ∈ l, o.dst ≠ some t) → (putAll a vals i l).tmps[t]? = a.tmps[t]?
  | [], _, _, _ => rfl
  | o :: l, i, a, h => by
    rw [putAll, putAll_other vals t l _ _ (fun o' ho' => h o' (List.mem_cons_of_mem _ ho'))]
    have := h o (by simp)
    cases ho : o.dst with
    | none => simp [Act.put]
    | some s =>
      have : s ≠ t := fun e => this (by rw [ho, e])
      simp only [Act.put]
      rw [Array.getElem?_setIfInBounds_ne this]
theorem putAll_at (vals : Nat → Value) (t : Tmp) : ∀ (l : List Oper) (i : Nat) (a : Act) (k : Nat) (o : Oper), l[k]? = some o → o.dst = some t → (∀ j o', l[j]? = some o' → o'.dst = some t → j = k) → t < a.tmps.size →
    (putAll a vals i l).tmps[t]? = some (vals (i + k))
  | [], _, _, k, o, h, _, _, _ => by simp at h
  | x :: l, i, a, 0, o, h, ht, hu, hs => by
    simp at h
    subst h
    rw [putAll, putAll_other vals t l _ _ (fun o' ho' e => by
      obtain ⟨j, hj⟩ := List.getElem?_of_mem ho'
      have := hu (j + 1) o' (by simpa using hj) e
      omega)]
    rw [ht]
    simp only [Act.put]
    rw [Array.getElem?_setIfInBounds_self_of_lt hs]; rfl
  | x :: l, i, a, k + 1, o, h, ht, hu, hs => by
    simp at h
    rw [putAll, putAll_at vals t l (i + 1) _ k o h ht (fun j o' hj hd => by have := hu (j + 1) o' (by simpa using hj) hd; omega)]
    · rw [Nat.add_assoc, Nat.add_comm 1 k]
    · cases x.dst <;> simp [Act.put, hs]

theorem Slots.all (hok : planOk ops a0.tmps.size = true) {L : Nat → Bool} {a : Act} (st : Slots ops a0 V L a) (hL : ∀ i, i < ops.size → L i = true) :
    a = putAll a0 (slotV ops a) 0 ops.toList := by
  have ht : a.tmps = (putAll a0 (slotV ops a) 0 ops.toList).tmps := by
    apply Array.ext_getElem?
    intro t
    by_cases h : ∃ (i : Nat) (o : Oper), ops[i]? = some o ∧ o.dst = some t
    · obtain ⟨i, o, hi, hd⟩ := h
      have hlt := planOk_size hok hi hd
      obtain ⟨v, hv, _⟩ := st.val i o t hi hd (hL i (Array.getElem?_eq_some_iff.1 hi).1)
      rw [putAll_at (slotV ops a) t ops.toList 0 a0 i o (by simpa using hi) hd (fun j o' hj hd' => planOk_ne hok (by simpa using hj) hd' hi hd) hlt]
      rw [Nat.zero_add, hv]
      unfold slotV
      rw [hi]
      simp [hd, hv]
    · rw [putAll_other (slotV ops a) t _ _ _ (fun o ho e => by
        obtain ⟨i, hi⟩ := List.getElem?_of_mem ho
        exact h ⟨i, o, by simpa using hi, e⟩)]
      exact st.keep t (fun i o hi hd => (h ⟨i, o, hi, hd⟩).elim)
  have hd : a.defers = (putAll a0 (slotV ops a) 0 ops.toList).defers := by rw [putAll_defers, st.defers]
  cases a
  generalize putAll a0 (slotV ops _) 0 ops.toList = b at *
  cases b
  simp_all

/-- the steps that a plan owes -/
def Steps (P : Program) (ops : Array Oper) (a0 : Act) (V : Nat → Value → Prop) (WI : (Nat → Bool) → (Nat → Value) → World → Prop) (i : Nat) : Prop :=
  ∀ o L a w, ops[i]? = some o → L i = false → (∀ e ∈ o.after, Region.binds .any e = true → L e.on = true) → Slots ops a0 V L a → WI L (slotV ops a) w →
    OpTo P ops o a w fun v w' => (o.dst = none → v = undef) ∧ V i v ∧ WI (setL L i) (updV (slotV ops a) i v) w'

theorem plan_any (hok : planOk ops a0.tmps.size = true) (hback : planBack ops = true) (hsteps : ∀ i, i < ops.size → Steps P ops a0 V WI i)
    (hend : ∀ vals w, (∀ (i : Nat) (o : Oper) (t : Tmp), ops[i]? = some o → o.dst = some t → V i (vals i)) → WI (fun i => decide (i < ops.size)) vals w → Q .normal (putAll a0 vals 0 ops.toList) w) :
    ∀ (fuel : Nat) (listed : Array Bool) (a : Act) (w : World), listed.size = ops.size → ((List.range ops.size).filter (fun i => !listed.getD i false)).length ≤ fuel →
      Slots ops a0 V (fun i => listed.getD i false) a → WI (fun i => listed.getD i false) (slotV ops a) w → wpAnyIn Fence.wide 0 P .any ops Q fuel listed a w := by
  have hfin : ∀ (listed : Array Bool) (a : Act) (w : World), listed.size = ops.size → Region.ready .any ops listed = [] → Slots ops a0 V (fun i => listed.getD i false) a → WI (fun i => listed.getD i false) (slotV ops a) w → Q .normal a w := by
    intro listed a w hsz hr st wi
    have hall : ∀ i, i < ops.size → listed.getD i false = true := by
      intro i
      induction i using Nat.strongRecOn with
      | _ i ih =>
        intro hi
        cases hl : listed.getD i false with
        | true => rfl
        | false =>
          exfalso
          have : i ∈ Region.ready .any ops listed := by
            refine mem_ready.2 ⟨getD_in' (by omega) hl, ops[i], Array.getElem?_eq_getElem hi, fun e he hb => ?_⟩
            have hlt := planBack_lt hback (Array.getElem?_eq_getElem hi) e he hb
            exact ih e.on hlt (by omega)
          rw [hr] at this
          cases this
    have hLL : (fun i => listed.getD i false) = (fun i => decide (i < ops.size)) := by
      funext i
      by_cases hi : i < ops.size
      · rw [hall i hi]; simp [hi]
      · have : listed.getD i false = false := by simp [Array.getElem?_eq_none (show listed.size ≤ i by omega)]
        rw [this]; simp [hi]
    have ha := st.all hok (fun i hi => hall i hi)
    rw [hLL] at wi
    have := hend (slotV ops a) w (fun i o t hi hd => by
      obtain ⟨v, hv, hV⟩ := st.val i o t hi hd (hall i (Array.getElem?_eq_some_iff.1 hi).1)
      have e : slotV ops a i = v := by unfold slotV; rw [hi]; simp [hd, hv]
      rw [e]; exact hV) wi
    rw [ha]; exact this
  intro fuel
  induction fuel with
  | zero =>
    intro listed a w hsz hf st wi
    have hr : Region.ready .any ops listed = [] := by
      apply List.eq_nil_iff_forall_not_mem.2
      intro i hi
      obtain ⟨h0, o, ho, _⟩ := mem_ready.1 hi
      have hlt := (Array.getElem?_eq_some_iff.1 ho).1
      have : i ∈ (List.range ops.size).filter (fun i => !listed.getD i false) := by
        rw [List.mem_filter]
        refine ⟨List.mem_range.2 hlt, ?_⟩
        rw [getD_both' h0]; rfl
      have h2 : (List.range ops.size).filter (fun i => !listed.getD i false) = [] := List.length_eq_zero_iff.1 (by omega)
      rw [h2] at this
      cases this
    exact ⟨hr, hfin listed a w hsz hr st wi⟩
  | succ fuel ih =>
    intro listed a w hsz hf st wi
    refine ⟨fun hr => hfin listed a w hsz hr st wi, fun i hi => ?_⟩
    obtain ⟨h0, o, ho, hd⟩ := mem_ready.1 hi
    have hlt := (Array.getElem?_eq_some_iff.1 ho).1
    have hLi : listed.getD i false = false := getD_both' h0
    have hset : (fun j => (listed.setIfInBounds i true).getD j false) = setL (fun j => listed.getD j false) i := by
      funext j
      unfold setL
      by_cases hji : j = i
      · subst hji; simp [hsz, hlt]
      · simp only [hji, if_false]
        exact Go.getD_set_ne false (fun e => hji e.symm)
    have hcount : ((List.range ops.size).filter (fun j => !(listed.setIfInBounds i true).getD j false)).length ≤ fuel := by
      have e : (List.range ops.size).filter (fun j => !(listed.setIfInBounds i true).getD j false) = ((List.range ops.size).filter (fun j => !listed.getD j false)).filter (fun j => decide (j ≠ i)) := by
        rw [List.filter_filter]
        congr 1
        funext j
        have := congrFun hset j
        rw [this]
        unfold setL
        by_cases hji : j = i
        · simp [hji]
        · simp [hji]
      rw [e]
      have hmem : i ∈ (List.range ops.size).filter (fun j => !listed.getD j false) := by
        rw [List.mem_filter]; exact ⟨List.mem_range.2 hlt, by rw [hLi]; rfl⟩
      have := filter_ne_lt _ i hmem
      omega
    have hstep := hsteps i hlt o _ a w ho hLi hd st wi
    have next : ∀ v w', (o.dst = none → v = undef) ∧ V i v ∧ WI (setL (fun j => listed.getD j false) i) (updV (slotV ops a) i v) w' →
        wpAnyIn Fence.wide 0 P .any ops Q fuel (listed.setIfInBounds i true) (a.put o.dst v) w' := by
      rintro v w' ⟨hvn, hv, hwi⟩
      refine ih _ _ _ (by simp [hsz]) hcount ?_ ?_
      · rw [hset]; exact st.put hok ho hLi hd hv
      · rw [hset, slotV_put hok st.size ho hvn]; exact hwi
    unfold wpOpIn
    rw [ho]
    simp only
    unfold OpTo at hstep
    by_cases hw : Region.wanted o (yielded ops a.tmps) = true
    · rw [if_pos hw] at hstep ⊢
      refine ⟨fun f _ => trivial, ?_⟩
      have hse : o.semAt Fence.wide.round a.eval = execOp a.eval o := rfl
      rw [hse]
      generalize (execOp a.eval o).run P w = r at *
      cases r with
      | halt h w' => exact hstep.elim
      | ok x w' =>
        cases x with
        | value v => exact next v w' hstep
        | skip => exact next undef w' hstep
        | enter f args =>
          refine ⟨(fun h => by cases h), callsIn_wide.2 (hstep.mono ?_)⟩
          rintro e w'' ⟨v, rfl, hR⟩
          exact next v w'' hR
        | round l f tmps assign body =>
          refine ⟨(fun h => by cases h), hstep.mono ?_⟩
          rintro e w'' ⟨v, rfl, hR⟩
          exact next v w'' hR
        | _ => exact hstep.elim
    · rw [if_neg hw] at hstep ⊢
      exact ⟨fun f _ => trivial, next undef w hstep⟩

/-! ### small words for a plan's steps -/
def planFree (ops : Array Oper) (t : Tmp) : Bool := (List.range ops.size).all fun i => match (ops[i]?).bind (·.dst) with | some u => u != t | none => true
theorem Slots.outside {L : Nat → Bool} {a : Act} (st : Slots ops a0 V L a) {t : Tmp} (h : planFree ops t = true) {v : Value} (hv : a0.tmps[t]? = some v) : a.tmps[t]? = some v := by
  refine (st.keep t (fun i o hi hd => ?_)).trans hv
  have hil := (Array.getElem?_eq_some_iff.1 hi).1
  have := List.all_eq_true.1 h i (List.mem_range.2 hil)
  rw [hi] at this
  simp [hd] at this
/-- a slot that a later operation k will write -/
theorem Slots.before {L : Nat → Bool} {a : Act} (hok : planOk ops a0.tmps.size = true) (st : Slots ops a0 V L a) {i k : Nat} {t : Tmp} {ok : Oper} (hL : L i = false) (hk : ops[k]? = some ok) (hd : ok.dst = some t)
    {e : Edge} (he : e ∈ ok.after) (hb : Region.binds .any e = true) (hon : e.on = i) {v : Value} (hv : a0.tmps[t]? = some v) : a.tmps[t]? = some v := by
  refine (st.keep t (fun j o hj hdj => ?_)).trans hv
  obtain rfl := planOk_ne hok hj hdj hk hd
  cases hLj : L j with
  | false => rfl
  | true => have := st.closed j ok hk hLj e he hb; rw [hon, hL] at this; cases this
theorem opTo_val {o : Oper} {a : Act} {w w' : World} {v : Value} {R : Value → World → Prop} (hw : Region.wanted o (yielded ops a.tmps) = true) (hrun : (execOp a.eval o).run P w = .ok (.value v) w') (h : R v w') : OpTo P ops o a w R := by
  unfold OpTo; rw [if_pos hw, hrun]; exact h
theorem opTo_skip {o : Oper} {a : Act} {w w' : World} {R : Value → World → Prop} (hw : Region.wanted o (yielded ops a.tmps) = true) (hrun : (execOp a.eval o).run P w = .ok .skip w') (h : R undef w') : OpTo P ops o a w R := by
  unfold OpTo; rw [if_pos hw, hrun]; exact h
theorem opTo_call {o : Oper} {a : Act} {w w' : World} {f : FuncId} {args : Array Value} {R : Value → World → Prop} (hw : Region.wanted o (yielded ops a.tmps) = true) (hrun : (execOp a.eval o).run P w = .ok (.enter f args) w')
    (h : Calls P f args w' fun e w'' => ∃ v, e = .returned v ∧ R v w'') : OpTo P ops o a w R := by
  unfold OpTo; rw [if_pos hw, hrun]; exact h
theorem opTo_not {o : Oper} {a : Act} {w : World} {R : Value → World → Prop} (hw : Region.wanted o (yielded ops a.tmps) = false) (h : R undef w) : OpTo P ops o a w R := by
  unfold OpTo; rw [if_neg (by rw [hw]; exact Bool.false_ne_true)]; exact h

theorem steps_of {i : Nat} {o : Oper} (ho : ops[i]? = some o)
    (h : ∀ L a w, L i = false → (∀ e ∈ o.after, Region.binds .any e = true → L e.on = true) → Slots ops a0 V L a → WI L (slotV ops a) w →
      OpTo P ops o a w fun v w' => (o.dst = none → v = undef) ∧ V i v ∧ WI (setL L i) (updV (slotV ops a) i v) w') : Steps P ops a0 V WI i := by
  intro o' L a w ho' hL hd st wi
  obtain rfl : o = o' := Option.some.inj (ho.symm.trans ho')
  exact h L a w hL hd st wi
theorem ex_move {o : Oper} {a : Act} {w : World} {x : Operand} (ho : o.op = .move x ∨ o.op = .assign x) {v : Value} (hx : a.eval x = v) : (execOp a.eval o).run P w = .ok (.value v) w := by
  unfold execOp
  rcases ho with ho | ho <;> rw [ho] <;> simp only [hx] <;> rfl

/-- THE PLAN, for the walk in the fence -/
theorem wpIn_region_plan {id : Nat} {w : World} (hm : P.follows .mixedOrders = true) (hok : planOk ops a0.tmps.size = true) (hback : planBack ops = true)
    (V : Nat → Value → Prop) (WI : (Nat → Bool) → (Nat → Value) → World → Prop)
    (h0 : ∀ vals, WI (fun _ => false) vals w.drew) (hsteps : ∀ i, i < ops.size → Steps P ops a0 V WI i)
    (hend : ∀ vals w, (∀ (i : Nat) (o : Oper) (t : Tmp), ops[i]? = some o → o.dst = some t → V i (vals i)) → WI (fun i => decide (i < ops.size)) vals w → Q .normal (putAll a0 vals 0 ops.toList) w) :
    (Code.region id ops true).wpIn Fence.wide 0 P Q a0 w := by
  have hL : (fun i => (Array.replicate ops.size false).getD i false) = (fun _ => false) := by
    funext i
    rcases Nat.lt_or_ge i ops.size with h | h
    · simp [h]
    · simp [h]
  refine wpIn_region_any hm (plan_any hok hback hsteps hend ops.size _ a0 _ (by simp) ?_ ?_ ?_)
  · have := List.length_filter_le (fun i => !(Array.replicate ops.size false).getD i false) (List.range ops.size)
    rw [List.length_range] at this
    exact this
  · rw [hL]
    exact ⟨rfl, rfl, fun _ _ => rfl, (fun _ _ _ _ _ h => by cases h), (fun _ _ _ h => by cases h)⟩
  · rw [hL]; exact h0 _
/-- THE PLAN -/
theorem wp_region_plan {id : Nat} {w : World} (hm : P.follows .mixedOrders = true) (hok : planOk ops a0.tmps.size = true) (hback : planBack ops = true)
    (V : Nat → Value → Prop) (WI : (Nat → Bool) → (Nat → Value) → World → Prop)
    (h0 : ∀ vals, WI (fun _ => false) vals w.drew) (hsteps : ∀ i, i < ops.size → Steps P ops a0 V WI i)
    (hend : ∀ vals w, (∀ (i : Nat) (o : Oper) (t : Tmp), ops[i]? = some o → o.dst = some t → V i (vals i)) → WI (fun i => decide (i < ops.size)) vals w → Q .normal (putAll a0 vals 0 ops.toList) w) :
    (Code.region id ops true).wp P Q a0 w :=
  wpIn_wide.1 (wpIn_region_plan hm hok hback V WI h0 hsteps hend)
end
end Suture
/-
  ONE ELEMENT AT ONE STEP (no program): an element's address in a slice and in an array, a load and a store of one cell; the record of a region whose last operation alone writes.
  Conditions: none beyond each theorem's own.
-/
namespace Suture
open Go Go.RowKit

theorem Agrees.setRow {R : Nat → Prop} {A W : World} (h : Agrees R A W) {p : Nat} (hp : ¬ R p ∨ A.heap.size ≤ p) (cs : Array Value) : Agrees R A (W.setRow p cs) :=
  ⟨h.os, h.tape, h.output, by have := h.size; simpa using this, fun b hb hr => by
    refine (setRow_other W p b cs (fun e => ?_)).trans (h.block b hb hr)
    subst e
    rcases hp with hp | hp
    · exact hp hr
    · omega⟩

section
variable {P : Program} {o : Oper} {a : Act} {w : World}

theorem ex_idx {T E : TypeId} {x y : Operand} {sz : Nat} (ho : o.op = .indexAddr T x y) (hu : P.underlying T = some (.slice E)) (hs : (P.info? E).map (·.size) = some sz) (b off n cap i : Nat)
    (hx : a.eval x = .slice (some ⟨b, off, none⟩) n cap) (hy : a.eval y = .int .i64 i) (hi : i < n) :
    (execOp a.eval o).run P w = .ok (.value (.pointer (some ⟨b, off + i * sz, none⟩))) w := by
  cases hq : P.info? E with
  | none => simp [hq] at hs
  | some inf =>
    have hsz : inf.size = sz := by simpa [hq] using hs
    unfold execOp
    simp [ho, hx, hy, Instr.indexAt, asIntOf, run_underlying hu, Sem.run_bind, Go.sizeOf, typeInfo, hq, hsz, hi, addr_add]
theorem ex_idxArr {T E : TypeId} {x y : Operand} {sz len : Nat} (ho : o.op = .indexAddr T x y) (hu : P.underlying T = some (.array len E)) (hs : (P.info? E).map (·.size) = some sz) (b off i : Nat)
    (hx : a.eval x = .pointer (some ⟨b, off, none⟩)) (hy : a.eval y = .int .i64 i) (hi : i < len) :
    (execOp a.eval o).run P w = .ok (.value (.pointer (some ⟨b, off + i * sz, none⟩))) w := by
  cases hq : P.info? E with
  | none => simp [hq] at hs
  | some inf =>
    have hsz : inf.size = sz := by simpa [hq] using hs
    unfold execOp
    simp [ho, hx, hy, Instr.indexAt, Instr.sureAddr, asIntOf, run_underlying hu, Sem.run_bind, Go.sizeOf, typeInfo, hq, hsz, hi, addr_add]

/-- types of one cell that are no rows -/
def IsOne (P : Program) (ty : TypeId) : Prop := (∃ d, P.underlying ty = some d ∧ (match d with | .struct _ | .array _ _ => true | _ => false) = false) ∧ (P.info? ty).map (·.size) = some 1
theorem ex_load1 {ty : TypeId} {x : Operand} (ho : o.op = .load ty x) (hA : IsOne P ty) {b off : Nat} (hx : a.eval x = .pointer (some ⟨b, off, none⟩)) {v : Value} (hc : w.cell? ⟨b, off, none⟩ = some v) :
    (execOp a.eval o).run P w = .ok (.value v) w := by
  obtain ⟨⟨d, hu, hd⟩, hi⟩ := hA
  have hagg : (isAgg ty).run P w = .ok false w := by
    unfold isAgg
    rw [Sem.run_bind, run_underlying hu w]
    cases d <;> simp_all
  unfold execOp
  simp [ho, hx, Instr.loadAt, Instr.sureAddr, Sem.run_bind, loadVar, hagg, hc]
theorem ex_store1 {ty : TypeId} {x y : Operand} (ho : o.op = .store ty x y) (hA : IsOne P ty) {b off : Nat} (hx : a.eval x = .pointer (some ⟨b, off, none⟩)) {v v0 : Value} (hy : a.eval y = v) (hc : w.cell? ⟨b, off, none⟩ = some v0)
    (hf : w.frozen? ⟨b, off, none⟩ = false) (h1 : v.oneCell' = true) : (execOp a.eval o).run P w = .ok .skip (w.setCell ⟨b, off, none⟩ v) := by
  cases hq : P.info? ty with
  | none => simp [hq, IsOne] at hA
  | some inf =>
    have hsz : inf.size = 1 := by simpa [hq] using hA.2
    have hcs : v.cells = #[v] := by cases v <;> simp_all [Value.cells, Value.oneCell']
    unfold execOp
    simp [ho, hx, hy, Instr.storeAt, Instr.sureAddr, Sem.run_bind, storeVar, hcs, Go.sizeOf, typeInfo, hq, hsz, storeCells, run_store _ _ _ _ _ h1, addr_add, hc, hf]
end
end Suture
/-
  EQUALITY OF ARRAYS AND STRUCTS OF NUMBERS (no program).
  Conditions: none beyond each theorem's own.
-/
namespace Suture
open Go Go.RowKit

section
variable {P : Program}

/-- the cells of a value that == can be asked of -/
def Keyed (P : Program) (m : Nat) (t : TypeId) (xs : Array Value) : Prop := (Value.agg xs).formed P t = true ∧ ∃ l, P.keyLits m t xs.toList = some l
/-- the types for it -/
def Keyable (P : Program) (m : Nat) (t : TypeId) : Prop := m ≤ 10000 ∧ P.keyTypeAt m t = true ∧ P.tiled m t = true ∧ P.eqGuardType P.depth t = false

theorem eqA_run {m : Nat} {t : TypeId} (hK : Keyable P m t) {xs ys : Array Value} (hx : Keyed P m t xs) (hy : Keyed P m t ys) (w : World) :
    ∃ r : Bool, (Op.equalIn 10000 t (.agg xs) (.agg ys)).run P w = .ok r w ∧ (r = true ↔ xs = ys) := by
  obtain ⟨hm, hk, ht, _⟩ := hK
  obtain ⟨fx, lx, hx⟩ := hx
  obtain ⟨fy, ly, hy⟩ := hy
  obtain ⟨r, hr, hiff⟩ := run_equalIn_deep (10000 - m) m t hk w m m (.agg xs) (.agg ys) lx ly fx fy hx hy
  rw [show 10000 - m + m = 10000 by omega] at hr
  refine ⟨r, hr, hiff.trans ⟨fun h => ?_, fun h => ?_⟩⟩
  · have e1 := cells_of_lits m t ht m _ _ hx
    have e2 := cells_of_lits m t ht m _ _ hy
    have : xs.toList = ys.toList := by rw [e1, e2, h]
    simpa using congrArg List.toArray this
  · subst h
    exact Option.some.inj (hx.symm.trans hy)

theorem ex_eql {m : Nat} {t ty : TypeId} (hK : Keyable P m t) {xs ys : Array Value} (hx : Keyed P m t xs) (hy : Keyed P m t ys) {o : Oper} {a : Act} {w : World} {x y : Operand} (ho : o.op = .binOp .eql t x y ty)
    (ex : a.eval x = .agg xs) (ey : a.eval y = .agg ys) : ∃ r : Bool, (execOp a.eval o).run P w = .ok (.value (.bool r)) w ∧ (r = true ↔ xs = ys) := by
  obtain ⟨r, hr, hiff⟩ := eqA_run hK hx hy w
  refine ⟨r, ?_, hiff⟩
  unfold execOp
  simp [ho, ex, ey, Sem.run_bind, run_eqGuard_agg (hm := hK.2.2.2), run_eql_struct, hr]
theorem ex_neq {m : Nat} {t ty : TypeId} (hK : Keyable P m t) {xs ys : Array Value} (hx : Keyed P m t xs) (hy : Keyed P m t ys) {o : Oper} {a : Act} {w : World} {x y : Operand} (ho : o.op = .binOp .neq t x y ty)
    (ex : a.eval x = .agg xs) (ey : a.eval y = .agg ys) : ∃ r : Bool, (execOp a.eval o).run P w = .ok (.value (.bool (!r))) w ∧ (r = true ↔ xs = ys) := by
  obtain ⟨r, hr, hiff⟩ := eqA_run hK hx hy w
  refine ⟨r, ?_, hiff⟩
  unfold execOp
  simp [ho, ex, ey, Sem.run_bind, run_eqGuard_agg (hm := hK.2.2.2), run_neq_struct, hr]

theorem opTo_eql {m : Nat} {t ty : TypeId} (hK : Keyable P m t) {xs ys : Array Value} (hx : Keyed P m t xs) (hy : Keyed P m t ys) {ops : Array Oper} {o : Oper} {a : Act} {w : World} {x y : Operand} {R : Value → World → Prop}
    (hw : Region.wanted o (yielded ops a.tmps) = true) (ho : o.op = .binOp .eql t x y ty) (ex : a.eval x = .agg xs) (ey : a.eval y = .agg ys) (h : ∀ r : Bool, (r = true ↔ xs = ys) → R (.bool r) w) : OpTo P ops o a w R := by
  obtain ⟨r, hr, hiff⟩ := ex_eql hK hx hy (w := w) ho ex ey
  exact opTo_val hw hr (h r hiff)
theorem opTo_neq {m : Nat} {t ty : TypeId} (hK : Keyable P m t) {xs ys : Array Value} (hx : Keyed P m t xs) (hy : Keyed P m t ys) {ops : Array Oper} {o : Oper} {a : Act} {w : World} {x y : Operand} {R : Value → World → Prop}
    (hw : Region.wanted o (yielded ops a.tmps) = true) (ho : o.op = .binOp .neq t x y ty) (ex : a.eval x = .agg xs) (ey : a.eval y = .agg ys) (h : ∀ r : Bool, (r = true ↔ xs = ys) → R (.bool (!r)) w) : OpTo P ops o a w R := by
  obtain ⟨r, hr, hiff⟩ := ex_neq hK hx hy (w := w) ho ex ey
  exact opTo_val hw hr (h r hiff)

theorem mapM_all {α β : Type} {f : α → Option β} : ∀ (l : List α), (∀ x ∈ l, ∃ y, f x = some y) → ∃ ys, l.mapM f = some ys
  | [], _ => ⟨[], rfl⟩
  | x :: l, h => by
    obtain ⟨y, hy⟩ := h x (by simp)
    obtain ⟨ys, hys⟩ := mapM_all l (fun z hz => h z (by simp [hz]))
    exact ⟨y :: ys, by rw [List.mapM_cons, hy, hys]; rfl⟩
/-- an array of numbers -/
theorem keyed_ints {t e : TypeId} {N : Nat} {k : IntKind} (ht : P.underlying t = some (.array N e)) (he : P.underlying e = some (.int k)) (hc : P.cellsOf e = 1) (hN : P.cellsOf t = N) (xs : Array Value)
    (hs : xs.size = N) (h : ∀ i, i < N → ∃ z, xs[i]? = some (.int k z) ∧ (Lit.int k z).wf = true) : Keyed P 2 t xs := by
  refine ⟨by simp [Value.formed, ht, hN, hs], ?_⟩
  unfold Program.keyLits
  simp only [ht]
  rw [if_pos (by simpa [hN] using hs)]
  obtain ⟨ys, hys⟩ := mapM_all (f := fun i => P.keyLits 1 e ((xs.toList.drop (i * P.cellsOf e)).take (P.cellsOf e))) (List.range N) (fun i hi => by
    have hi' : i < N := List.mem_range.1 hi
    obtain ⟨z, hz, hw⟩ := h i hi'
    refine ⟨[.int k z], ?_⟩
    have e1 : (xs.toList.drop (i * P.cellsOf e)).take (P.cellsOf e) = [.int k z] := by
      rw [hc, Nat.mul_one, List.drop_eq_getElem_cons (by simpa [hs] using hi')]
      simp only [List.take_succ_cons, List.take_zero]
      rw [Array.getElem?_eq_getElem (by omega)] at hz
      simpa using hz
    rw [e1]
    unfold Program.keyLits
    simp [he, hw])
  rw [hys]
  exact ⟨_, rfl⟩
theorem wf_u64 (c : BitVec 64) : ∃ z, U c = .int .u64 z ∧ (Lit.int .u64 z).wf = true :=
  ⟨_, rfl, by have := c.isLt; simp [Lit.wf, IntKind.min, IntKind.max, IntKind.signed, IntKind.bits]; omega⟩
theorem wf_u8 (c : BitVec 8) : ∃ z, B c = .int .u8 z ∧ (Lit.int .u8 z).wf = true :=
  ⟨_, rfl, by have := c.isLt; simp [Lit.wf, IntKind.min, IntKind.max, IntKind.signed, IntKind.bits]; omega⟩
end
end Suture
/-
  A REGION's NEW BLOCKS (no program): for a plan: which blocks its operations have made so far, and what they hold.
  Conditions: none beyond each theorem's own.
-/
namespace Suture
open Go Go.RowKit

/-- a whole block written over -/
theorem ex_storeAll {P : Program} {o : Oper} {a : Act} {w : World} {ty t : TypeId} {x y : Operand} {n : Nat} (ho : o.op = .store ty x y) (hi : (P.info? ty).map (·.size) = some n) (b : Nat) (hx : a.eval x = .pointer (some ⟨b, 0, none⟩)) (vs cur : Array Value) (hy : a.eval y = .agg vs)
    (hn : vs.size = n) (hg : w.heap[b]? = some (.cells cur t (0, 0))) (hc : cur.size = n) (h1 : ∀ v ∈ vs, v.oneCell' = true) : (execOp a.eval o).run P w = .ok .skip (w.setRow b vs) := by
  have h := ex_store (P := P) (w := w) ho hi b 0 hx vs cur hy hn hg (by omega) h1
  have e := setRow_all w b vs cur (by omega)
  rw [hn] at e
  rw [e] at h
  exact h

/-- a block that operation i makes (holding c0) and operation s writes over with c1 -/
structure Box where
  i : Nat
  s : Nat
  t : TypeId
  c0 : Array Value
  c1 : Array Value

def Box.now (x : Box) (L : Nat → Bool) : Array Value := if L x.s = true then x.c1 else x.c0

structure Boxed (W0 : World) (bs : List Box) (L : Nat → Bool) (vals : Nat → Value) (W : World) : Prop where
  ag : Agrees All W0 W
  row : ∀ x ∈ bs, L x.i = true → ∃ b, vals x.i = .pointer (some ⟨b, 0, none⟩) ∧ W0.heap.size ≤ b ∧ W.heap[b]? = some (.cells (x.now L) x.t (0, 0))
  ne : ∀ x ∈ bs, ∀ y ∈ bs, x.i ≠ y.i → L x.i = true → L y.i = true → vals x.i ≠ vals y.i

theorem Boxed.start {W0 : World} {bs : List Box} {vals : Nat → Value} : Boxed W0 bs (fun _ => false) vals W0 :=
  ⟨Agrees.refl _ _, (fun _ _ h => by cases h), (fun _ _ _ _ _ h => by cases h)⟩
theorem Boxed.mono {W0 : World} {bs : List Box} {L : Nat → Bool} {vals : Nat → Value} {W W' : World} (h : Boxed W0 bs L vals W) (g : Agrees All W W') : Boxed W0 bs L vals W' :=
  ⟨h.ag.trans g, fun x hx hL => by
    obtain ⟨b, h1, h2, h3⟩ := h.row x hx hL
    exact ⟨b, h1, h2, (g.block b (Array.getElem?_eq_some_iff.1 h3).1 trivial).trans h3⟩, h.ne⟩
def Box.free (bs : List Box) (i : Nat) : Bool := bs.all fun x => x.i != i && x.s != i
theorem Boxed.other {W0 : World} {bs : List Box} {L : Nat → Bool} {vals : Nat → Value} {W : World} (h : Boxed W0 bs L vals W) {i : Nat} (hi : Box.free bs i = true) (v : Value) : Boxed W0 bs (setL L i) (updV vals i v) W := by
  have hf : ∀ x ∈ bs, x.i ≠ i ∧ x.s ≠ i := fun x hx => by
    have := List.all_eq_true.1 hi x hx
    simpa using this
  have hLi : ∀ x ∈ bs, setL L i x.i = L x.i := fun x hx => by unfold setL; rw [if_neg (hf x hx).1]
  have hLs : ∀ x ∈ bs, setL L i x.s = L x.s := fun x hx => by unfold setL; rw [if_neg (hf x hx).2]
  have hv : ∀ x ∈ bs, updV vals i v x.i = vals x.i := fun x hx => by unfold updV; rw [if_neg (hf x hx).1]
  refine ⟨h.ag, fun x hx hL => ?_, fun x hx y hy hne h1 h2 => ?_⟩
  · rw [hLi x hx] at hL
    obtain ⟨b, h1, h2, h3⟩ := h.row x hx hL
    refine ⟨b, (hv x hx).trans h1, h2, ?_⟩
    unfold Box.now at h3 ⊢
    rw [hLs x hx]; exact h3
  · rw [hLi x hx] at h1
    rw [hLi y hy] at h2
    rw [hv x hx, hv y hy]
    exact h.ne x hx y hy hne h1 h2
/-- operations that make blocks, and those that write, are all unlike -/
def Box.apart (bs : List Box) : Bool := bs.all fun x => bs.all fun y => x.i != y.s
theorem Boxed.alloc {W0 : World} {bs : List Box} {L : Nat → Bool} {vals : Nat → Value} {W : World} (h : Boxed W0 bs L vals W) (hap : Box.apart bs = true) {x : Box} (hx : x ∈ bs) (hu : ∀ y ∈ bs, y.i = x.i → y = x) (hs : L x.s = false) (hi : L x.i = false) :
    Boxed W0 bs (setL L x.i) (updV vals x.i (.pointer (some ⟨W.heap.size, 0, none⟩))) (W.alloc (.cells x.c0 x.t)) := by
  have hap' : ∀ x ∈ bs, ∀ y ∈ bs, x.i ≠ y.s := fun x hx y hy => by
    have := List.all_eq_true.1 (List.all_eq_true.1 hap x hx) y hy
    simpa using this
  have hsz := h.ag.size
  have hold : ∀ y ∈ bs, y.i ≠ x.i → L y.i = true → ∃ b, vals y.i = .pointer (some ⟨b, 0, none⟩) ∧ W0.heap.size ≤ b ∧ b < W.heap.size ∧ (W.alloc (.cells x.c0 x.t)).heap[b]? = some (.cells (y.now L) y.t (0, 0)) := fun y hy hne hL => by
    obtain ⟨b, h1, h2, h3⟩ := h.row y hy hL
    have hb := (Array.getElem?_eq_some_iff.1 h3).1
    exact ⟨b, h1, h2, hb, (Below.heap_alloc W _ b hb).trans h3⟩
  have hnow : ∀ y ∈ bs, y.now (setL L x.i) = y.now L := fun y hy => by
    have hsl : setL L x.i y.s = L y.s := by unfold setL; rw [if_neg (fun e => hap' x hx y hy e.symm)]
    unfold Box.now
    rw [hsl]
  refine ⟨h.ag.alloc _, fun y hy hL => ?_, fun y hy z hz hne h1 h2 => ?_⟩
  · rw [hnow y hy]
    by_cases he : y.i = x.i
    · obtain rfl := hu y hy he
      refine ⟨W.heap.size, by simp [updV], hsz, ?_⟩
      rw [World.alloc_heap_new]
      unfold Box.now
      rw [hs]; rfl
    · have hL' : L y.i = true := by unfold setL at hL; rwa [if_neg he] at hL
      obtain ⟨b, h1, h2, _, h3⟩ := hold y hy he hL'
      exact ⟨b, by unfold updV; rw [if_neg he]; exact h1, h2, h3⟩
  · by_cases he : y.i = x.i
    · have hz' : z.i ≠ x.i := fun e => hne (he.trans e.symm)
      have hL' : L z.i = true := by unfold setL at h2; rwa [if_neg hz'] at h2
      obtain ⟨b, g1, _, g2, _⟩ := hold z hz hz' hL'
      unfold updV
      rw [if_pos he, if_neg hz', g1]
      intro e
      simp at e
    · have hL' : L y.i = true := by unfold setL at h1; rwa [if_neg he] at h1
      obtain ⟨b, g1, _, g2, _⟩ := hold y hy he hL'
      by_cases he2 : z.i = x.i
      · unfold updV
        rw [if_neg he, if_pos he2, g1]
        intro e
        simp at e
      · have hL2 : L z.i = true := by unfold setL at h2; rwa [if_neg he2] at h2
        unfold updV
        rw [if_neg he, if_neg he2]
        exact h.ne y hy z hz hne hL' hL2
theorem Boxed.store {W0 : World} {bs : List Box} {L : Nat → Bool} {vals : Nat → Value} {W : World} (h : Boxed W0 bs L vals W) (hap : Box.apart bs = true) {x : Box} (hx : x ∈ bs) (hu : ∀ y ∈ bs, y.i = x.i → y = x) (hus : ∀ y ∈ bs, y.s = x.s → y = x) (hi : L x.i = true)
    {b : Nat} (hb : vals x.i = .pointer (some ⟨b, 0, none⟩)) : Boxed W0 bs (setL L x.s) (updV vals x.s undef) (W.setRow b x.c1) := by
  have hap' : ∀ x ∈ bs, ∀ y ∈ bs, x.i ≠ y.s := fun x hx y hy => by
    have := List.all_eq_true.1 (List.all_eq_true.1 hap x hx) y hy
    simpa using this
  obtain ⟨b', hb', hlo, hrow⟩ := h.row x hx hi
  have e : b' = b := by rw [hb] at hb'; simp at hb'; exact hb'.symm
  subst e
  have hLi : ∀ y ∈ bs, setL L x.s y.i = L y.i := fun y hy => by unfold setL; rw [if_neg (hap' y hy x hx)]
  have hv : ∀ y ∈ bs, updV vals x.s undef y.i = vals y.i := fun y hy => by unfold updV; rw [if_neg (hap' y hy x hx)]
  refine ⟨h.ag.setRow (.inr hlo) _, fun y hy hL => ?_, fun y hy z hz hne h1 h2 => ?_⟩
  · rw [hLi y hy] at hL
    rw [hv y hy]
    by_cases he : y.i = x.i
    · obtain rfl := hu y hy he
      refine ⟨b', hb', hlo, ?_⟩
      rw [setRow_heap _ _ _ _ _ _ hrow]
      unfold Box.now setL
      rw [if_pos rfl]; rfl
    · obtain ⟨c, h1, h2, h3⟩ := h.row y hy hL
      have hne : c ≠ b' := fun e => h.ne y hy x hx he hL hi (by rw [h1, hb', e])
      refine ⟨c, h1, h2, ?_⟩
      rw [setRow_other W b' c _ hne, h3]
      have hsl : setL L x.s y.s = L y.s := by unfold setL; rw [if_neg (fun e => he (by rw [hus y hy e]))]
      unfold Box.now
      rw [hsl]
  · rw [hLi y hy] at h1
    rw [hLi z hz] at h2
    rw [hv y hy, hv z hz]
    exact h.ne y hy z hz hne h1 h2
end Suture
/-
  SLICES OF ELEMENTS OF ANY WIDTH, read as cells; append out of any such slice, nil too (no program).
  Conditions: none beyond each theorem's own.
-/
namespace Suture
open Go Go.RowKit Go.Proofs

/-- a slice of n elements, each 'size' cells wide, reads as these cells -/
def CellsAt (R : Nat → Prop) (w : World) (v : Value) (size n : Nat) (cs : List Value) : Prop :=
  ∃ a cap, v = .slice a n cap ∧ cs.length = n * size ∧ (n ≤ 9223372036854775807 ∧ n ≤ cap) ∧
    ∀ j u, cs[j]? = some u → ∃ b off, a = some ⟨b, off, none⟩ ∧ R b ∧ b < w.heap.size ∧ w.cell? ⟨b, off + j, none⟩ = some u

theorem CellsAt.agrees {R S : Nat → Prop} {w w' : World} {v : Value} {size n : Nat} {cs : List Value} (h : CellsAt R w v size n cs) (hag : Agrees S w w') (hS : ∀ b, R b → S b) : CellsAt R w' v size n cs := by
  obtain ⟨a, cap, hv, hn, hb, hc⟩ := h
  refine ⟨a, cap, hv, hn, hb, fun i x hx => ?_⟩
  obtain ⟨b, off, ha, hRb, hlt, hcell⟩ := hc i x hx
  exact ⟨b, off, ha, hRb, Nat.lt_of_lt_of_le hlt hag.size, (hag.cell (p := ⟨b, off + i, none⟩) hlt (hS b hRb)).trans hcell⟩
theorem CellsAt.mono {R S : Nat → Prop} {w : World} {v : Value} {size n : Nat} {cs : List Value} (h : CellsAt R w v size n cs) (hS : ∀ b, R b → S b) : CellsAt S w v size n cs := by
  obtain ⟨a, cap, hv, hn, hb, hc⟩ := h
  refine ⟨a, cap, hv, hn, hb, fun i x hx => ?_⟩
  obtain ⟨b, off, ha, hRb, hlt, hcell⟩ := hc i x hx
  exact ⟨b, off, ha, hS b hRb, hlt, hcell⟩
theorem cells_of_slice {R : Nat → Prop} {w : World} {v : Value} {xs : List Value} (h : SliceAt R w v xs) : CellsAt R w v 1 xs.length xs := by
  obtain ⟨a, n, cap, rfl, hn, hb, hc⟩ := h
  subst hn
  exact ⟨a, cap, rfl, by omega, hb, hc⟩
theorem cells_of_bytes {R : Nat → Prop} {w : World} {v : Value} {bs : List (BitVec 8)} (h : BytesAt R w v bs) : CellsAt R w v 1 bs.length (bs.map B) := by
  have := cells_of_slice h
  rwa [List.length_map] at this
theorem slice_of_cells {R : Nat → Prop} {w : World} {v : Value} {n : Nat} {cs : List Value} (h : CellsAt R w v 1 n cs) : SliceAt R w v cs := by
  obtain ⟨a, cap, rfl, hn, hb, hc⟩ := h
  exact ⟨a, n, cap, rfl, by omega, hb, hc⟩
theorem own_cells {W : World} {base : Nat} {e : TypeId} {v : Value} {size n : Nat} {xs : List Value} (h : W.ownsRow base e size v n xs) : CellsAt (fun b => base ≤ b) W v size n xs := by
  obtain ⟨h1, h2⟩ := h
  rcases h2 with ⟨rfl, rfl⟩ | ⟨g, cap, cur, rfl, hb, hg, hc, hm, hs, ht⟩
  · exact ⟨none, 0, rfl, h1, by omega, fun j u hu => by
      have : xs = [] := List.eq_nil_of_length_eq_zero (by simpa using h1)
      subst this; simp at hu⟩
  · refine ⟨_, cap, rfl, h1, by simp only [maxLen] at hm; omega, fun j x hx => ⟨g, 0, rfl, hb, (Array.getElem?_eq_some_iff.1 hg).1, ?_⟩⟩
    rw [Nat.zero_add, cell_of_row W g _ cur _ _ hg, ← Array.getElem?_toList]
    rw [← ht, List.getElem?_take] at hx
    split at hx
    · exact hx
    · cases hx

section
variable {P : Program} {w : World}

theorem src_of_cells {size n : Nat} {tx e' : TypeId} (hk : P.underlying tx = some (.slice e')) {x : Value} {news : List Value} (h : CellsAt All w x size n news) (hsz : 0 < size) (h1 : ∀ u ∈ news, u.oneCell' = true) : Src P size tx x n news w := by
  obtain ⟨a, cap, rfl, hn, hb, hc⟩ := h
  cases a with
  | none =>
    have hnil : news = [] := by
      cases news with
      | nil => rfl
      | cons u l => obtain ⟨b, off, h, _⟩ := hc 0 u rfl; cases h
    subst hnil
    have h0 : n = 0 := by
      rcases Nat.eq_zero_or_pos n with h | h
      · exact h
      · have := Nat.mul_pos h hsz; simp at hn; omega
    subst h0
    exact Src.ofNil w hk cap
  | some ad =>
    refine Src.ofSlice w hk ad n cap news hn (fun j u hu => ?_) h1
    obtain ⟨b, off, hab, _, _, hcell⟩ := hc j u hu
    obtain rfl := Option.some.inj hab
    rw [addr_add]; exact hcell

theorem run_append_from (base : Nat) (t ty e : TypeId) (i : TypeInfo) (z : Value) (size bytes : Nat) (ht : P.underlying t = some (.slice e)) (hi : P.info? e = some i) (hz : i.zero = some z)
    (hsize : i.size = size) (hby : i.bytes = bytes) (hzs : z.cells.size = size) (hsz : 0 < size) (v : Value) (n : Nat) (xs : List Value) (hown : w.ownsRow base e size v n xs) (x : Value) (m : Nat) (news : List Value)
    (hx : CellsAt All w x size m news) (h1 : ∀ u ∈ news, u.oneCell' = true) (h63 : n + m ≤ maxLen) (hbytes : (n + m) * bytes ≤ 140737488355328) (hbase : base ≤ w.heap.size) :
    ∃ v' w', (Builtin.append_ #[t, t] ty #[v, x]).run P w = .ok v' w' ∧ w'.ownsRow base e size v' (n + m) (xs ++ news) ∧ w.grownBy w' v.ownBlock := by
  by_cases hm : m = 0
  · subst hm
    have hnil : news = [] := by
      obtain ⟨a, cap, _, hn, _, _⟩ := hx
      exact List.eq_nil_of_length_eq_zero (by simpa using hn)
    subst hnil
    have hs := src_of_cells (P := P) ht hx hsz h1
    have hrun : (Builtin.append_ #[t, t] ty #[v, x]).run P w = .ok v w := by
      rcases hown.2 with ⟨rfl, rfl⟩ | ⟨g, cap, cur, rfl, _, _, hc, _⟩
      · exact run_append_nothing w t t ty e i ht hi none 0 0 (Nat.le_refl _) x (by rw [hsize]; exact hs)
      · exact run_append_nothing w t t ty e i ht hi _ n cap hc x (by rw [hsize]; exact hs)
    exact ⟨v, w, hrun, by simpa using hown, World.grownBy.refl _ _⟩
  · obtain ⟨a, cap, rfl, hn, hb, hc⟩ := hx
    have hpos : 0 < news.length := by rw [hn]; exact Nat.mul_pos (by omega) hsz
    obtain ⟨b, off, rfl, _⟩ := hc 0 news[0] (List.getElem?_eq_getElem hpos)
    obtain ⟨v', w', r1, r2, r3, _⟩ := run_append_own w base t ty e i z size bytes ht hi hz hsize hby hzs hsz v n xs hown ⟨b, off, none⟩ m cap news hn (fun j u hu => by
      obtain ⟨b', off', he, _, _, hcell⟩ := hc j u hu
      cases he
      rw [addr_add]; exact hcell) h1 h63 hbytes hbase
    exact ⟨v', w', r1, r2, r3⟩
theorem ex_app {o : Oper} {a : Act} {w' : World} {s x : Operand} {t : TypeId} {vs vx v' : Value} (ho : o.op = .call { callee := .builtin .append, args := #[s, x], argTypes := #[t, t] }) (es : a.eval s = vs) (ex : a.eval x = vx)
    (h : ∀ ty, (Builtin.append_ #[t, t] ty #[vs, vx]).run P w = .ok v' w') : (execOp a.eval o).run P w = .ok (.value v') w' := by
  simp [execOp, ho, resolve, invoke, builtin, es, ex, h]
theorem wpList_append_from {ops : Array Oper} {rest : List Oper} {o : Oper} {a : Act} {Q : Exit → Act → World → Prop} (hw : Region.wanted o (yielded ops a.tmps) = true) (s y : Operand) (t : TypeId)
    (ho : o.op = .call { callee := .builtin .append, args := #[s, y], argTypes := #[t, t] })
    (base : Nat) (e : TypeId) (i : TypeInfo) (z : Value) (size bytes : Nat) (ht : P.underlying t = some (.slice e)) (hi : P.info? e = some i) (hz : i.zero = some z)
    (hsize : i.size = size) (hby : i.bytes = bytes) (hzs : z.cells.size = size) (hsz : 0 < size) (v : Value) (n : Nat) (xs : List Value) (hs : a.eval s = v) (hown : w.ownsRow base e size v n xs) (x : Value) (m : Nat) (news : List Value)
    (hy : a.eval y = x) (hx : CellsAt All w x size m news) (h1 : ∀ u ∈ news, u.oneCell' = true) (h63 : n + m ≤ maxLen) (hbytes : (n + m) * bytes ≤ 140737488355328) (hbase : base ≤ w.heap.size)
    (h : ∀ v' w', w'.ownsRow base e size v' (n + m) (xs ++ news) → w.grownBy w' v.ownBlock → wpList P ops Q rest (a.put o.dst v') w') : wpList P ops Q (o :: rest) a w := by
  obtain ⟨v', w', r1, r2, r3⟩ := run_append_from (P := P) base t o.type e i z size bytes ht hi hz hsize hby hzs hsz v n xs hown x m news hx h1 h63 hbytes hbase
  have hrun : (execOp a.eval o).run P w = .ok (.value v') w' := by simp [execOp, ho, resolve, invoke, builtin, hs, hy, r1]
  exact wpList_val hw hrun (h v' w' r2 r3)
/-- what an append leaves of what was there: all but the row that it grows -/
theorem Agrees.grown' {R : Nat → Prop} {A W W' : World} {row : Option Nat} (h : Agrees R A W) (g : W.grownBy W' row) (hr : ∀ b, row = some b → A.heap.size ≤ b ∨ ¬ R b) : Agrees R A W' :=
  ⟨g.os.trans h.os, g.tape.trans h.tape, g.output.trans h.output, Nat.le_trans h.size g.size, fun b hb hR =>
    (g.block b (Nat.lt_of_lt_of_le hb h.size) (fun e => by rcases hr b e.symm with h' | h' <;> first | omega | exact h' hR)).trans (h.block b hb hR)⟩
end
end Suture
/-
  THE WALKS OF crc.reckon AND crc.Step.
  Conditions: none.
-/
namespace Suture
open Go Go.RowKit Go.Proofs

set_option maxHeartbeats 400000 in
theorem reckon_calls (b : BitVec 8) (w : World) :
    Calls Try.prog 36 #[B b] w fun e w' => e = .returned (U (rounds 8 (b.setWidth 64))) ∧ w = w' := by
  go_enter Try.func36, Try.ntmps36
  go_wp2
  go_loop [3, 6] (fun c i => ∃ k : Nat, k ≤ 8 ∧ i = .int .i64 k ∧ c = U (rounds k (b.setWidth 64))) (fun _ i => 8 - (intOf i).toNat)
  case atStart => exact ⟨0, by omega, rfl, rfl⟩
  case round =>
    obtain ⟨k, hk, rfl, rfl⟩ := hrel
    by_cases hlt : k < 8
    · go_wp2
      go_round
      case rel => exact ⟨k + 1, by omega, by go_num, by rw [rounds_succ, bs_mul]⟩
      case measure => simp [intOf]; omega
    · obtain rfl : k = 8 := by omega
      go_wp2
      go_ret
      exact ⟨rfl, rfl⟩

set_option maxHeartbeats 400000 in
theorem step_calls (c : BitVec 64) (b : BitVec 8) (w : World) :
    Calls Try.prog 14 #[U c, B b] w fun e w' => e = .returned (U (step c b)) ∧ w = w' := by
  go_enter Try.func14, Try.ntmps14
  go_wp2_with (go_at_call 36; refine (reckon_calls _ _).mono ?_; rintro e w' ⟨rfl, rfl⟩)
  go_ret
  exact ⟨by rw [← step_by_table]; rfl, rfl⟩
end Suture
