/-
  PLAIN LAWS BESIDE A SUM's (no Go, no program): a burst, row by row; three rows combined, row by row.
  Conditions: none beyond each theorem's own.
-/
import Derived.Test.YtmkbchhmeaefeaaDoorPoly
namespace Suture

/-- the bytes bs, the first i of by put in at k -/
def burst (bs «by» : List (BitVec 8)) (k i : Nat) : List (BitVec 8) :=
  bs.take k ++ List.zipWith (· ^^^ ·) ((bs.drop k).take i) («by».take i) ++ bs.drop (k + i)
def burstChanged («by» : List (BitVec 8)) (i : Nat) : Bool := («by».take i).any (· != 0#8)

theorem burst_zero (bs y : List (BitVec 8)) (k : Nat) : burst bs y k 0 = bs := by
  simp [burst]
theorem burst_mid (bs y : List (BitVec 8)) (k i : Nat) (hi : i ≤ y.length) (hk : k + i ≤ bs.length) : (List.zipWith (· ^^^ ·) ((bs.drop k).take i) (y.take i)).length = i := by
  simp; omega
theorem burst_length (bs y : List (BitVec 8)) (k i : Nat) (hi : i ≤ y.length) (hk : k + i ≤ bs.length) : (burst bs y k i).length = bs.length := by
  unfold burst
  rw [List.length_append, List.length_append, burst_mid bs y k i hi hk]
  simp; omega
theorem burst_get (bs y : List (BitVec 8)) (k i : Nat) (hi : i ≤ y.length) (hk : k + i ≤ bs.length) : (burst bs y k i)[k + i]? = bs[k + i]? := by
  unfold burst
  rw [List.getElem?_append_right (by rw [List.length_append, burst_mid bs y k i hi hk]; simp; omega), List.length_append, burst_mid bs y k i hi hk]
  rw [List.getElem?_drop]
  congr 1
  simp; omega
theorem burst_succ (bs y : List (BitVec 8)) (k i : Nat) (hi : i < y.length) (hk : k + i < bs.length) :
    (burst bs y k i).set (k + i) (bs.getD (k + i) 0 ^^^ y.getD i 0) = burst bs y k (i + 1) := by
  unfold burst
  have hm := burst_mid bs y k i (by omega) (by omega)
  have ht : (bs.take k).length = k := by simp; omega
  have e1 : (bs.drop k).take (i + 1) = (bs.drop k).take i ++ [bs.getD (k + i) 0] := by
    rw [List.take_succ_eq_append_getElem (by simp; omega)]
    congr 2
    rw [List.getElem_drop, List.getD_eq_getElem?_getD, List.getElem?_eq_getElem (by omega)]; rfl
  have e2 : y.take (i + 1) = y.take i ++ [y.getD i 0] := by
    rw [List.take_succ_eq_append_getElem hi]
    congr 2
    rw [List.getD_eq_getElem?_getD, List.getElem?_eq_getElem (by omega)]; rfl
  have e3 : bs.drop (k + i) = bs.getD (k + i) 0 :: bs.drop (k + (i + 1)) := by
    rw [List.drop_eq_getElem_cons (by omega), Nat.add_assoc]
    congr 1
    rw [List.getD_eq_getElem?_getD, List.getElem?_eq_getElem (by omega)]; rfl
  rw [e1, e2, List.zipWith_append (by simp; omega), e3]
  rw [List.set_append_right _ _ (by rw [List.length_append, hm, ht]; omega), List.length_append, hm, ht]
  simp
theorem burstChanged_succ (y : List (BitVec 8)) (i : Nat) (hi : i < y.length) : burstChanged y (i + 1) = (burstChanged y i || (y.getD i 0 != 0#8)) := by
  unfold burstChanged
  rw [List.take_succ_eq_append_getElem hi, List.any_append]
  congr 1
  simp [List.getD_eq_getElem?_getD, hi]
theorem zip_same : ∀ (l y : List (BitVec 8)), l.length = y.length → (List.zipWith (· ^^^ ·) l y = l ↔ y.any (· != 0#8) = false)
  | [], [], _ => by simp
  | a :: l, b :: y, h => by
    have ih := zip_same l y (by simpa using h)
    rw [List.zipWith_cons_cons, List.cons.injEq, ih, List.any_cons]
    have hb : a ^^^ b = a ↔ b = 0#8 := by
      constructor
      · intro h
        have e : a ^^^ (a ^^^ b) = a ^^^ a := by rw [h]
        rwa [← BitVec.xor_assoc, BitVec.xor_self, BitVec.zero_xor] at e
      · rintro rfl; exact BitVec.xor_zero
    rw [hb]
    simp
  | [], b :: y, h => by simp at h
  | a :: l, [], h => by simp at h
/-- THE LAW of a burst -/
theorem sum_burst_ne (bs y : List (BitVec 8)) (k i : Nat) (hi : i ≤ y.length) (h8 : i ≤ 8) (hk : k + i ≤ bs.length) : (sum (burst bs y k i) != sum bs) = burstChanged y i := by
  have hbs : bs = bs.take k ++ (bs.drop k).take i ++ bs.drop (k + i) := by
    rw [List.append_assoc, ← List.drop_drop, List.take_append_drop, List.take_append_drop]
  have hm := burst_mid bs y k i hi hk
  have h1 : ((bs.drop k).take i).length = i := by simp; omega
  have key := sum_burst (bs.take k) (List.zipWith (· ^^^ ·) ((bs.drop k).take i) (y.take i)) ((bs.drop k).take i) (bs.drop (k + i)) (by rw [hm, h1]) (by omega)
  rw [zip_same _ _ (by rw [h1]; simp; omega), ← hbs] at key
  unfold burstChanged
  change (sum (burst bs y k i) = sum bs ↔ _) at key
  cases h : (y.take i).any (· != 0#8)
  · rw [h] at key; simp [key.2 rfl]
  · rw [h] at key
    have : sum (burst bs y k i) ≠ sum bs := fun e => by simpa using key.1 e
    simpa using this

/-- three rows' first i, combined -/
def xorTo (a b c : List (BitVec 8)) (i : Nat) : List (BitVec 8) := xor3 (a.take i) (b.take i) (c.take i)
theorem xor3_append : ∀ (a b c : List (BitVec 8)) (x y z : BitVec 8), a.length = b.length → a.length = c.length → xor3 (a ++ [x]) (b ++ [y]) (c ++ [z]) = xor3 a b c ++ [x ^^^ y ^^^ z]
  | [], [], [], _, _, _, _, _ => rfl
  | p :: a, q :: b, r :: c, x, y, z, h1, h2 => by
    simp only [List.cons_append, xor3]
    rw [xor3_append a b c x y z (by simpa using h1) (by simpa using h2)]
  | [], _ :: _, _, _, _, _, h, _ => by simp at h
  | _ :: _, [], _, _, _, _, h, _ => by simp at h
  | [], [], _ :: _, _, _, _, _, h => by simp at h
  | _ :: _, _ :: _, [], _, _, _, _, h => by simp at h
theorem xorTo_succ (a b c : List (BitVec 8)) (i : Nat) (ha : i < a.length) (hb : i < b.length) (hc : i < c.length) :
    xorTo a b c (i + 1) = xorTo a b c i ++ [a.getD i 0 ^^^ b.getD i 0 ^^^ c.getD i 0] := by
  unfold xorTo
  have e : ∀ l : List (BitVec 8), i < l.length → l.take (i + 1) = l.take i ++ [l.getD i 0] := fun l h => by
    rw [List.take_succ_eq_append_getElem h]
    congr 2
    rw [List.getD_eq_getElem?_getD, List.getElem?_eq_getElem h]; rfl
  rw [e a ha, e b hb, e c hc, xor3_append _ _ _ _ _ _ (by simp; omega) (by simp; omega)]
theorem xorTo_zero (a b c : List (BitVec 8)) : xorTo a b c 0 = [] := rfl
theorem sum_xorTo (a b c : List (BitVec 8)) (i : Nat) (ha : i ≤ a.length) (hb : i ≤ b.length) (hc : i ≤ c.length) :
    sum (xorTo a b c i) = sum (a.take i) ^^^ sum (b.take i) ^^^ sum (c.take i) := sum_three _ _ _ (by simp; omega) (by simp; omega)
theorem xorTo_length (a b c : List (BitVec 8)) (i : Nat) (ha : i ≤ a.length) (hb : i ≤ b.length) (hc : i ≤ c.length) : (xorTo a b c i).length = i := by
  induction i with
  | zero => rfl
  | succ i ih => rw [xorTo_succ a b c i (by omega) (by omega) (by omega), List.length_append, ih (by omega) (by omega) (by omega)]; rfl
end Suture
