/-
  suturelaw05.PtrBack: what is put is taken again, and what is behind it left; and what is put stands in memory of its own.
  Conditions: the widths are where they were laid.
-/
import Derived.Test.YtmkbchhmeaefeaaDoorTake1
import Derived.Test.YtmkbchhmeaefeaaDoorApp
import Derived.Laws.BytesArg
import Derived.Laws.Strings2
namespace Suture
open Go Go.RowKit Go.Proofs
attribute [local go_sem] Oper.semAt_some

theorem own_row {W : World} {base : Nat} {e : TypeId} {v : Value} {n : Nat} {xs : List Value} (h : W.ownsRow base e 1 v n xs) (hn : 0 < n) :
    ∃ g c cur, v = .slice (some ⟨g, 0, none⟩) n c ∧ W.heap[g]? = some (.cells cur e (0, 0)) ∧ ∀ j, j < n → cur[j]? = xs[j]? := by
  rcases h.2 with hz | ⟨g, cap, cur, rfl, _, hg, _, _, _, ht⟩
  · omega
  · refine ⟨g, cap, cur, rfl, hg, fun j hj => ?_⟩
    rw [← ht, List.getElem?_take_of_lt (by omega)]; simp
theorem BytesAt.prefix {R : Nat → Prop} {w : World} {a : Option Addr} {n cap m : Nat} {bs : List (BitVec 8)} (h : BytesAt R w (.slice a n cap) bs) (hm : m ≤ n) : BytesAt R w (.slice a m cap) (bs.take m) := by
  obtain ⟨a', n', cap', hv, hn, hb, hc⟩ := h
  cases hv
  rw [List.length_map] at hn
  refine ⟨a, m, cap, rfl, by simp; omega, by omega, fun i x hx => ?_⟩
  have hi : i < m := by
    have := (List.getElem?_eq_some_iff.1 hx).1
    simp at this; omega
  rw [List.getElem?_map, List.getElem?_take_of_lt hi, ← List.getElem?_map] at hx
  exact hc i x hx
theorem Ptr.one (x : Ptr) : ∀ v ∈ x.cells, v.oneCell' = true := by
  intro v hv
  simp [Ptr.cells] at hv
  rcases hv with rfl | rfl | rfl | rfl | rfl <;> rfl
def nums (bs : List (BitVec 8)) : List Int := bs.map fun b => (b.toNat : Int)
theorem str_of_bytes {R : Nat → Prop} {w : World} {a : Option Addr} {n cap : Nat} {bs : List (BitVec 8)} (h : BytesAt R w (.slice a n cap) bs) :
    (convert 28 9 (.slice a n cap)).run Tryd.prog w = .ok (.string (strOfNums (nums bs))) w := by
  have hl := h.len
  cases a with
  | none =>
    have h0 : bs = [] := by
      cases bs with
      | nil => rfl
      | cons b l => obtain ⟨_, _, e, _⟩ := h.at.2.2 0 (by rw [← hl]; simp); cases e
    subst h0
    have := run_convert_bytes_nil (P := Tryd.prog) w 28 5 Tryd.underlying28 Tryd.underlying5 n cap 9 Tryd.underlying9
    rw [this]; rfl
  | some ad =>
    rcases Nat.eq_zero_or_pos n with h0 | h0
    · subst h0
      have hb : bs = [] := List.length_eq_zero_iff.1 hl
      subst hb
      obtain ⟨b, off, spot⟩ := ad
      rw [run_convert_bytes_string w _ _ 5 _ _ _ Tryd.underlying28 Tryd.underlying5 Tryd.underlying9]
      have hl : (loadCells ⟨b, off, spot⟩ 0).run Tryd.prog w = .ok (([] : List Int).map (Value.int .u8)).toArray w := by
        have := run_loadCells_list (P := Tryd.prog) w ⟨b, off, spot⟩ [] (fun j v hj => by simp at hj)
        simpa using this
      rw [run_bytesToString w _ 0 cap [] hl]
      rfl
    · obtain ⟨b, off, he, _⟩ := h.at.2.2 0 h0
      cases he
      refine run_convert_bytes_arg w 28 5 Tryd.underlying28 Tryd.underlying5 b off n cap (nums bs) (by simp [nums, hl]) (fun i hi => ?_) 9 Tryd.underlying9
      obtain ⟨b', off', he, _, _, hc⟩ := h.at.2.2 i hi
      cases he
      rw [hc]
      congr 1
      unfold B nums
      rw [List.getD_eq_getElem?_getD, List.getD_eq_getElem?_getD, List.getElem?_map, List.getElem?_eq_getElem (by omega)]
      rfl
theorem nums_inj : ∀ {a b : List (BitVec 8)}, nums a = nums b → a = b := by
  intro a b h
  exact (List.map_inj_right (f := fun b : BitVec 8 => (b.toNat : Int)) (fun x y e => BitVec.eq_of_toNat_eq (by omega))).1 h
theorem str_eq (a b : List (BitVec 8)) : ((strOfNums (nums a)).toList == (strOfNums (nums b)).toList) = (a == b) := by
  have hi : (strOfNums (nums a)).toList = (strOfNums (nums b)).toList ↔ a = b := by
    constructor
    · intro h
      rw [ByteArray.toList_eq, ByteArray.toList_eq, strOfNums_data, strOfNums_data] at h
      unfold nums at h
      rw [List.map_map, List.map_map] at h
      refine (List.map_inj_right (fun x y e => ?_)).1 h
      simp only [Function.comp] at e
      have e2 := congrArg UInt8.toNat e
      have hx := x.isLt
      have hy := y.isLt
      simp at e2
      exact BitVec.eq_of_toNat_eq (by omega)
    · rintro rfl; rfl
  by_cases h : a = b
  · subst h; simp
  · have h1 : ¬ (strOfNums (nums a)).toList = (strOfNums (nums b)).toList := fun e => h (hi.1 e)
    rw [beq_eq_false_iff_ne.2 h, beq_eq_false_iff_ne.2 h1]
theorem same_calls (a : Option Addr) (n cap : Nat) (s1 : List (BitVec 8)) (b : Option Addr) (m dap : Nat) (bs : List (BitVec 8)) (w : World) (ha : BytesAt All w (.slice a n cap) s1) (hb : BytesAt All w (.slice b m dap) bs) :
    Calls Tryd.prog 8 #[.slice a n cap, .slice b m dap] w fun e w' => e = .returned (.bool (s1 == bs)) ∧ w = w' := by
  have h1 := str_of_bytes ha
  have h2 := str_of_bytes hb
  have HE := Lib.hid (str_eq s1 bs)
  clear ha hb
  go_enter Tryd.func8, Tryd.ntmps8
  go_wp2_with fail
  go_ret
  exact ⟨by rw [← HE.out]; rfl, rfl⟩

/-! ### what is put is taken again -/
theorem bytes_length (x : Ptr) : x.bytes.length = 17 := by
  simp [Ptr.bytes, Ptr.nums, numBytes]
theorem setW8 (a : Int) (h0 : 0 ≤ a) (h1 : a ≤ 255) : (((BitVec.ofInt 64 a).setWidth 8).toNat : Int) = a := by
  rw [BitVec.toNat_setWidth, BitVec.toNat_ofInt, show (2 : Nat) ^ 64 = 18446744073709551616 from rfl, show (2 : Nat) ^ 8 = 256 from rfl]; omega
theorem setW16 (a : Int) (h0 : 0 ≤ a) (h1 : a ≤ 65535) : (((BitVec.ofInt 64 a).setWidth 16).toNat : Int) = a := by
  rw [BitVec.toNat_setWidth, BitVec.toNat_ofInt, show (2 : Nat) ^ 64 = 18446744073709551616 from rfl, show (2 : Nat) ^ 16 = 65536 from rfl]; omega
theorem setW32 (a : Int) (h0 : 0 ≤ a) (h1 : a ≤ 4294967295) : (((BitVec.ofInt 64 a).setWidth 32).toNat : Int) = a := by
  rw [BitVec.toNat_setWidth, BitVec.toNat_ofInt, show (2 : Nat) ^ 64 = 18446744073709551616 from rfl, show (2 : Nat) ^ 32 = 4294967296 from rfl]; omega
theorem numBytes_num (n : BitVec 64) (m : Nat) (hn : ∀ i, 8 * m ≤ i → n.getLsbD i = false) : leNum (numBytes (n, m)) = n := leNum_bytes n m hn (byteN n) (fun _ => rfl)
theorem small_num (a : Int) (m : Nat) (h0 : 0 ≤ a) (h1 : a ≤ 4294967295) (h2 : a.toNat < 2 ^ (8 * m)) : leNum (numBytes (BitVec.ofInt 64 a, m)) = BitVec.ofInt 64 a := by
  refine numBytes_num _ _ (high_false _ _ ?_)
  rw [BitVec.toNat_ofInt]
  have e : (a % ((2 ^ 64 : Nat) : Int)).toNat = a.toNat := by rw [show (2 : Nat) ^ 64 = 18446744073709551616 from rfl]; omega
  rw [e]; exact h2
theorem take_back (x : Ptr) (hx : x.ok) (bs : List (BitVec 8)) : takePtr (x.bytes ++ bs) = x := by
  obtain ⟨kd, a0, a1, bi, su⟩ := x
  obtain ⟨hk, h0, h1, hb⟩ := hx
  simp only at hk h0 h1 hb
  have e0 : takeAt ((Ptr.mk kd a0 a1 bi su).bytes ++ bs) 0 1 = BitVec.ofInt 64 kd := by
    rw [← small_num kd 1 (by omega) (by omega) (by have : (2 : Nat) ^ (8 * 1) = 256 := rfl; omega)]; rfl
  have e1 : takeAt ((Ptr.mk kd a0 a1 bi su).bytes ++ bs) 1 2 = BitVec.ofInt 64 a0 := by
    rw [← small_num a0 2 (by omega) (by omega) (by have : (2 : Nat) ^ (8 * 2) = 65536 := rfl; omega)]; rfl
  have e2 : takeAt ((Ptr.mk kd a0 a1 bi su).bytes ++ bs) 3 2 = BitVec.ofInt 64 a1 := by
    rw [← small_num a1 2 (by omega) (by omega) (by have : (2 : Nat) ^ (8 * 2) = 65536 := rfl; omega)]; rfl
  have e3 : takeAt ((Ptr.mk kd a0 a1 bi su).bytes ++ bs) 5 4 = BitVec.ofInt 64 bi := by
    rw [← small_num bi 4 (by omega) (by omega) (by have : (2 : Nat) ^ (8 * 4) = 4294967296 := rfl; omega)]; rfl
  have e4 : takeAt ((Ptr.mk kd a0 a1 bi su).bytes ++ bs) 9 8 = su := by
    have := numBytes_num su 8 (fun i hi => BitVec.getLsbD_of_ge _ _ (by omega))
    exact (show takeAt ((Ptr.mk kd a0 a1 bi su).bytes ++ bs) 9 8 = leNum (numBytes (su, 8)) from rfl).trans this
  unfold takePtr
  rw [e0, e1, e2, e3, e4, setW8 kd (by omega) (by omega), setW16 a0 (by omega) (by omega), setW16 a1 (by omega) (by omega), setW32 bi (by omega) (by omega)]
end Suture
