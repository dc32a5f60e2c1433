/-
  THE PLAIN LAW OF A SUM OF 64 BITS (no Go, no program): a step loses nothing, sums add up by exclusive or, and what changes within eight bytes changes the sum.
  Conditions: none beyond each theorem's own.
-/
namespace Suture

def poly : BitVec 64 := 0xC96C5795D7870F42#64
/-- one bit -/
def bs (c : BitVec 64) : BitVec 64 := (c >>> 1) ^^^ (if c.getLsbD 0 then poly else 0#64)
def rounds : Nat → BitVec 64 → BitVec 64
  | 0, c => c
  | n + 1, c => rounds n (bs c)
/-- one byte -/
def step (c : BitVec 64) (b : BitVec 8) : BitVec 64 := rounds 8 (c ^^^ b.setWidth 64)
def sumFrom (c : BitVec 64) (l : List (BitVec 8)) : BitVec 64 := l.foldl step c
def ones : BitVec 64 := BitVec.allOnes 64
def sum (l : List (BitVec 8)) : BitVec 64 := ~~~ (sumFrom ones l)

theorem bs_xor (a b : BitVec 64) : bs (a ^^^ b) = bs a ^^^ bs b := by
  unfold bs
  rw [BitVec.ushiftRight_xor_distrib, BitVec.getLsbD_xor]
  cases a.getLsbD 0 <;> cases b.getLsbD 0 <;> simp
  · rw [BitVec.xor_assoc]
  · rw [BitVec.xor_assoc, BitVec.xor_assoc, BitVec.xor_comm poly]
  · rw [BitVec.xor_assoc, BitVec.xor_comm poly, BitVec.xor_assoc, BitVec.xor_self, BitVec.xor_zero]

theorem bs_zero : bs 0#64 = 0#64 := by decide

theorem bs_top (a : BitVec 64) : (bs a).getLsbD 63 = a.getLsbD 0 := by
  unfold bs
  rw [BitVec.getLsbD_xor, BitVec.getLsbD_ushiftRight]
  have h : a.getLsbD (1 + 63) = false := BitVec.getLsbD_of_ge _ _ (by omega)
  rw [h]
  cases a.getLsbD 0
  · simp
  · simp only [if_true, Bool.false_xor]; decide

theorem xor_eq_zero {w : Nat} {a b : BitVec w} (h : a ^^^ b = 0#w) : a = b := by
  have : a ^^^ b ^^^ b = 0#w ^^^ b := by rw [h]
  rwa [BitVec.xor_assoc, BitVec.xor_self, BitVec.xor_zero, BitVec.zero_xor] at this

theorem bs_ker {a : BitVec 64} (h : bs a = 0#64) : a = 0#64 := by
  have h0 : a.getLsbD 0 = false := by rw [← bs_top, h]; simp
  have h1 : a >>> 1 = 0#64 := by
    have := h; unfold bs at this; rw [h0] at this; simpa using this
  apply BitVec.eq_of_getLsbD_eq
  intro i hi
  rw [BitVec.getLsbD_zero]
  cases i with
  | zero => exact h0
  | succ i =>
    have := congrArg (fun x : BitVec 64 => x.getLsbD i) h1
    simp only [BitVec.getLsbD_ushiftRight, BitVec.getLsbD_zero] at this
    rwa [Nat.add_comm] at this

theorem rounds_xor (n : Nat) (a b : BitVec 64) : rounds n (a ^^^ b) = rounds n a ^^^ rounds n b := by
  induction n generalizing a b with
  | zero => rfl
  | succ n ih => simp only [rounds]; rw [bs_xor, ih]
theorem rounds_ker (n : Nat) {a : BitVec 64} (h : rounds n a = 0#64) : a = 0#64 := by
  induction n generalizing a with
  | zero => exact h
  | succ n ih => exact bs_ker (ih h)
theorem rounds_inj (n : Nat) {a b : BitVec 64} (h : rounds n a = rounds n b) : a = b := by
  apply xor_eq_zero
  apply rounds_ker n
  rw [rounds_xor, h, BitVec.xor_self]
theorem rounds_add (m n : Nat) (a : BitVec 64) : rounds (m + n) a = rounds n (rounds m a) := by
  induction m generalizing a with
  | zero => simp [rounds]
  | succ m ih => rw [Nat.succ_add]; simp only [rounds]; exact ih _

/-- what has only noughts below is shifted alone -/
theorem rounds_shift (n : Nat) (y : BitVec 64) (hn : n ≤ 64) (hy : ∀ i, 64 - n ≤ i → y.getLsbD i = false) : rounds n (y <<< n) = y := by
  induction n generalizing y with
  | zero => simp [rounds]
  | succ n ih =>
    have hb : bs (y <<< (n + 1)) = y <<< n := by
      unfold bs
      have h0 : (y <<< (n + 1)).getLsbD 0 = false := by simp
      rw [h0]
      simp only [Bool.false_eq_true, if_false, BitVec.xor_zero]
      apply BitVec.eq_of_getLsbD_eq
      intro i hi
      rw [BitVec.getLsbD_ushiftRight, BitVec.getLsbD_shiftLeft, BitVec.getLsbD_shiftLeft]
      by_cases hi63 : i = 63
      · subst hi63
        have : y.getLsbD (63 - n) = false := hy _ (by omega)
        simp [this]
      · by_cases hlt : i < n
        · have a1 : decide (1 + i < n + 1) = true := by simp; omega
          have a2 : decide (i < n) = true := by simp; omega
          simp only [a1, a2, Bool.not_true, Bool.and_false, Bool.false_and]
        · have a1 : decide (1 + i < n + 1) = false := by simp; omega
          have a2 : decide (i < n) = false := by simp; omega
          have a3 : decide (1 + i < 64) = true := by simp; omega
          have a4 : decide (i < 64) = true := by simp; omega
          rw [a1, a2, a3, a4, show 1 + i - (n + 1) = i - n from by omega]
    simp only [rounds, hb]
    exact ih y (by omega) (fun i hi => hy i (by omega))

/-- the program's own way to make a step -/
theorem step_by_table (c : BitVec 64) (b : BitVec 8) : rounds 8 ((c.setWidth 8 ^^^ b).setWidth 64) ^^^ c >>> 8 = step c b := by
  unfold step
  have hx : c ^^^ b.setWidth 64 = (c.setWidth 8 ^^^ b).setWidth 64 ^^^ (c >>> 8) <<< 8 := by
    apply BitVec.eq_of_getLsbD_eq
    intro i hi
    simp only [BitVec.getLsbD_xor, BitVec.getLsbD_setWidth, BitVec.getLsbD_shiftLeft, BitVec.getLsbD_ushiftRight]
    by_cases h8 : i < 8
    · simp [h8, hi]
    · have hb : b.getLsbD i = false := BitVec.getLsbD_of_ge _ _ (by omega)
      have e : 8 + (i - 8) = i := by omega
      simp [h8, hi, hb, e]
  rw [hx, rounds_xor, rounds_shift 8 (c >>> 8) (by omega)]
  intro i hi
  rw [BitVec.getLsbD_ushiftRight]
  exact BitVec.getLsbD_of_ge _ _ (by omega)

theorem step_inj {c d : BitVec 64} {a : BitVec 8} (h : step c a = step d a) : c = d := by
  have := rounds_inj 8 h
  have h2 : c ^^^ a.setWidth 64 ^^^ a.setWidth 64 = d ^^^ a.setWidth 64 ^^^ a.setWidth 64 := by rw [this]
  rwa [BitVec.xor_assoc, BitVec.xor_assoc, BitVec.xor_self, BitVec.xor_zero, BitVec.xor_zero] at h2
theorem xor_left_cancel {w : Nat} {c x y : BitVec w} (h : c ^^^ x = c ^^^ y) : x = y := by
  have : c ^^^ (c ^^^ x) = c ^^^ (c ^^^ y) := by rw [h]
  rwa [← BitVec.xor_assoc, ← BitVec.xor_assoc, BitVec.xor_self, BitVec.zero_xor, BitVec.zero_xor] at this
theorem setWidth_inj {a b : BitVec 8} (h : a.setWidth 64 = b.setWidth 64) : a = b := by
  have := congrArg (fun x : BitVec 64 => x.setWidth 8) h
  simpa using this
theorem step_inj_byte {c : BitVec 64} {a b : BitVec 8} (h : step c a = step c b) : a = b :=
  setWidth_inj (xor_left_cancel (rounds_inj 8 h))

theorem sumFrom_append (c : BitVec 64) (l m : List (BitVec 8)) : sumFrom c (l ++ m) = sumFrom (sumFrom c l) m := by
  unfold sumFrom; rw [List.foldl_append]
theorem sumFrom_inj {c d : BitVec 64} (l : List (BitVec 8)) (h : sumFrom c l = sumFrom d l) : c = d := by
  induction l generalizing c d with
  | nil => exact h
  | cons b l ih => exact step_inj (ih h)

/-- eight bytes as a number, the lowest first -/
def le : List (BitVec 8) → BitVec 64
  | [] => 0#64
  | b :: l => b.setWidth 64 ^^^ (le l) <<< 8

theorem le_high (l : List (BitVec 8)) (i : Nat) (h : 8 * l.length ≤ i) : (le l).getLsbD i = false := by
  induction l generalizing i with
  | nil => simp [le]
  | cons b l ih =>
    simp only [List.length_cons] at h
    simp only [le, BitVec.getLsbD_xor, BitVec.getLsbD_setWidth, BitVec.getLsbD_shiftLeft]
    rw [ih (i - 8) (by omega), BitVec.getLsbD_of_ge b i (by omega)]
    simp

theorem sumFrom_le (c : BitVec 64) (l : List (BitVec 8)) (h : l.length ≤ 8) : sumFrom c l = rounds (8 * l.length) (c ^^^ le l) := by
  induction l generalizing c with
  | nil => simp [sumFrom, le, rounds]
  | cons b l ih =>
    simp only [List.length_cons] at h
    have e1 : sumFrom c (b :: l) = sumFrom (step c b) l := rfl
    rw [e1, ih _ (by omega)]
    have e2 : le l = rounds 8 ((le l) <<< 8) := (rounds_shift 8 (le l) (by omega) (fun i hi => le_high l i (by omega))).symm
    have e3 : step c b ^^^ le l = rounds 8 (c ^^^ le (b :: l)) := by
      unfold step
      rw [e2, ← rounds_xor, le, BitVec.xor_assoc]
    rw [e3, ← rounds_add, List.length_cons]
    congr 1
    omega

theorem le_inj (l m : List (BitVec 8)) (hl : l.length = m.length) (h8 : l.length ≤ 8) (h : le l = le m) : l = m := by
  induction l generalizing m with
  | nil => cases m with
    | nil => rfl
    | cons b m => simp at hl
  | cons a l ih =>
    cases m with
    | nil => simp at hl
    | cons b m =>
      simp only [List.length_cons] at hl h8
      have hbit : ∀ i, (le (a :: l)).getLsbD i = (le (b :: m)).getLsbD i := fun i => by rw [h]
      have hab : a = b := by
        apply BitVec.eq_of_getLsbD_eq
        intro i hi
        have := hbit i
        simp only [le, BitVec.getLsbD_xor, BitVec.getLsbD_setWidth, BitVec.getLsbD_shiftLeft] at this
        have h1 : decide (i < 64) = true := by simp; omega
        have h2 : decide (i < 8) = true := by simp; omega
        simpa [h1, h2] using this
      subst hab
      have hlm : le l = le m := by
        apply BitVec.eq_of_getLsbD_eq
        intro i hi
        by_cases h7 : 56 ≤ i
        · rw [le_high l i (by omega), le_high m i (by omega)]
        · have := hbit (i + 8)
          simp only [le, BitVec.getLsbD_xor, BitVec.getLsbD_setWidth, BitVec.getLsbD_shiftLeft] at this
          rw [BitVec.getLsbD_of_ge a (i + 8) (by omega)] at this
          have h1 : decide (i + 8 < 64) = true := by simp; omega
          have h2 : decide (i + 8 < 8) = false := by simp
          have h3 : i + 8 - 8 = i := by omega
          simpa [h1, h2, h3] using this
      rw [ih m (by omega) (by omega) hlm]

/-- THE BURST: lists that part only within eight bytes have unlike sums. -/
theorem sum_burst (pre mid mid' post : List (BitVec 8)) (hl : mid.length = mid'.length) (h8 : mid.length ≤ 8) :
    sum (pre ++ mid ++ post) = sum (pre ++ mid' ++ post) ↔ mid = mid' := by
  constructor
  · intro h
    unfold sum at h
    have h1 : sumFrom ones (pre ++ mid ++ post) = sumFrom ones (pre ++ mid' ++ post) := by
      have := congrArg (fun x : BitVec 64 => ~~~ x) h
      simpa using this
    rw [sumFrom_append, sumFrom_append, sumFrom_append, sumFrom_append] at h1
    have h2 := sumFrom_inj post h1
    rw [sumFrom_le _ mid h8, sumFrom_le _ mid' (by omega), ← hl] at h2
    exact le_inj mid mid' hl h8 (xor_left_cancel (rounds_inj _ h2))
  · intro h; rw [h]

theorem step_three (c d e : BitVec 64) (x y z : BitVec 8) : step (c ^^^ d ^^^ e) (x ^^^ y ^^^ z) = step c x ^^^ step d y ^^^ step e z := by
  unfold step
  rw [← rounds_xor, ← rounds_xor]
  congr 1
  apply BitVec.eq_of_getLsbD_eq
  intro i hi
  simp only [BitVec.getLsbD_xor, BitVec.getLsbD_setWidth]
  have h1 : decide (i < 64) = true := by simp; omega
  rw [h1]
  simp only [Bool.true_and]
  cases c.getLsbD i <;> cases d.getLsbD i <;> cases e.getLsbD i <;> cases x.getLsbD i <;> cases y.getLsbD i <;> cases z.getLsbD i <;> rfl

/-- three rows of one length, combined -/
def xor3 : List (BitVec 8) → List (BitVec 8) → List (BitVec 8) → List (BitVec 8)
  | x :: a, y :: b, z :: c => (x ^^^ y ^^^ z) :: xor3 a b c
  | _, _, _ => []

theorem sumFrom_three (p q r : BitVec 64) (a b c : List (BitVec 8)) (hab : a.length = b.length) (hac : a.length = c.length) :
    sumFrom (p ^^^ q ^^^ r) (xor3 a b c) = sumFrom p a ^^^ sumFrom q b ^^^ sumFrom r c := by
  induction a generalizing b c p q r with
  | nil => cases b with
    | nil => cases c with
      | nil => rfl
      | cons z c => simp at hac
    | cons y b => simp at hab
  | cons x a ih =>
    cases b with
    | nil => simp at hab
    | cons y b => cases c with
      | nil => simp at hac
      | cons z c =>
        simp only [List.length_cons] at hab hac
        have e : sumFrom (p ^^^ q ^^^ r) (xor3 (x :: a) (y :: b) (z :: c)) = sumFrom (step (p ^^^ q ^^^ r) (x ^^^ y ^^^ z)) (xor3 a b c) := rfl
        rw [e, step_three, ih _ _ _ b c (by omega) (by omega)]
        rfl

theorem sum_three (a b c : List (BitVec 8)) (hab : a.length = b.length) (hac : a.length = c.length) : sum (xor3 a b c) = sum a ^^^ sum b ^^^ sum c := by
  unfold sum
  have h : ones = ones ^^^ ones ^^^ ones := by decide
  have e := sumFrom_three ones ones ones a b c hab hac
  rw [← h] at e
  rw [e]
  apply BitVec.eq_of_getLsbD_eq
  intro i hi
  simp only [BitVec.getLsbD_not, BitVec.getLsbD_xor]
  have h1 : decide (i < 64) = true := by simp; omega
  rw [h1]
  simp only [Bool.true_and]
  cases (sumFrom ones a).getLsbD i <;> cases (sumFrom ones b).getLsbD i <;> cases (sumFrom ones c).getLsbD i <;> rfl

theorem wake_nine : sum [0x31#8, 0x32#8, 0x33#8, 0x34#8, 0x35#8, 0x36#8, 0x37#8, 0x38#8, 0x39#8] = 0x995dc9bbdf1939fa#64 := by decide +kernel
theorem wake_none : sum [] = 0#64 := by decide
theorem wake_step : step 0#64 0#8 = 0#64 := by decide +kernel
theorem wake_table : rounds 8 ((0x80#8).setWidth 64) = 0xC96C5795D7870F42#64 := by decide +kernel

end Suture
