/-
  A POINTER's BYTES: ptr.Put.
  Conditions: the widths are where they were laid.
-/
import Derived.Test.YtmkbchhmeaefeaaDoorPack2
namespace Suture
open Go Go.RowKit Go.Proofs

/-- the widths of a pointer's numbers, laid in the program's own variable -/
def widthCells : Array Value := #[.int .i64 1, .int .i64 2, .int .i64 2, .int .i64 4, .int .i64 8]
def Laid (w : World) : Prop := ∀ (j : Nat) (u : Value), widthCells[j]? = some u → w.cell? ⟨0, j, none⟩ = some u
theorem Laid.agrees {w w' : World} (h : Laid w) (g : Agrees All w w') : Laid w' := fun j u hu =>
  (g.cell (p := ⟨0, j, none⟩) (World.block_lt_of_cell? w _ (h j u hu)) trivial).trans (h j u hu)

/-- a pointer's numbers, and how wide they are -/
def Ptr.nums (x : Ptr) : List (BitVec 64 × Nat) := [(BitVec.ofInt 64 x.kd, 1), (BitVec.ofInt 64 x.a0, 2), (BitVec.ofInt 64 x.a1, 2), (BitVec.ofInt 64 x.bi, 4), (x.su, 8)]
def numBytes (p : BitVec 64 × Nat) : List (BitVec 8) := (List.range p.2).map (byteN p.1)
def Ptr.bytesTo (x : Ptr) (i : Nat) : List (BitVec 8) := ((x.nums.take i).map numBytes).flatten
def Ptr.bytes (x : Ptr) : List (BitVec 8) := (x.nums.map numBytes).flatten

theorem part_u64 (cs : Array Value) (i : Nat) (v : Value) (w : World) (h : cs[i]? = some v) : (part 25 cs i).run Tryd.prog w = .ok v w := by
  simp [go_sem, h]
theorem U_ofInt {a : Int} (h0 : 0 ≤ a) (h1 : a ≤ 4294967295) : Value.int .u64 a = U (BitVec.ofInt 64 a) := by
  unfold U
  rw [BitVec.toNat_ofInt]
  have e : ((a % ((2 ^ 64 : Nat) : Int)).toNat : Int) = a := by
    rw [show (2 ^ 64 : Nat) = 18446744073709551616 from rfl]; omega
  rw [e]

set_option maxHeartbeats 2000000 in
set_option maxRecDepth 100000 in
theorem ptrPut_calls (a : Option Addr) (l cap : Nat) (bs : List (BitVec 8)) (x : Ptr) (hx : x.ok) (w : World) (hl : l ≤ 1000) (hv : BytesAt All w (.slice a l cap) bs) (hg : Laid w) :
    Calls Tryd.prog 7 #[.slice a l cap, .agg x.cells] w fun e w' => ∃ v, e = .returned v ∧ BytesAt All w' v (bs ++ x.bytes) ∧ Agrees All w w' := by
  have hbl := hv.len
  obtain ⟨kd, a0, a1, bi, su⟩ := x
  obtain ⟨hk, h0r, h1r, hbr⟩ := hx
  simp only at hk h0r h1r hbr
  have w64 : ∀ a : Int, 0 ≤ a ∧ a ≤ 4294967295 → IntKind.u64.wrap a = a := fun a h => by
    have := wrap_u64_nat a.toNat (by omega)
    rwa [show ((a.toNat : Nat) : Int) = a by omega] at this
  have e0 := w64 kd (by omega)
  have e1 := w64 a0 (by omega)
  have e2 := w64 a1 (by omega)
  have e3 := w64 bi hbr
  have HV := Lib.hid hv
  have HG := Lib.hid hg
  clear hv w64 hg
  go_enter Tryd.func7, Tryd.ntmps7
  simp only [Ptr.cells]
  go_wp2_with fail
  rw [U_ofInt (a := kd) (by omega) (by omega), U_ofInt (a := a0) (by omega) (by omega), U_ofInt (a := a1) (by omega) (by omega), U_ofInt (a := bi) (by omega) (by omega)]
  have hN : (Ptr.mk kd a0 a1 bi su).nums = [(BitVec.ofInt 64 kd, 1), (BitVec.ofInt 64 a0, 2), (BitVec.ofInt 64 a1, 2), (BitVec.ofInt 64 bi, 4), (su, 8)] := rfl
  have hB : ∀ i, (Ptr.mk kd a0 a1 bi su).bytesTo i = (((Ptr.mk kd a0 a1 bi su).nums.take i).map numBytes).flatten := fun _ => rfl
  have hE : (Ptr.mk kd a0 a1 bi su).bytes = ((Ptr.mk kd a0 a1 bi su).nums.map numBytes).flatten := rfl
  rw [hN] at hB hE
  generalize BitVec.ofInt 64 kd = n0 at *
  generalize BitVec.ofInt 64 a0 = n1 at *
  generalize BitVec.ofInt 64 a1 = n2 at *
  generalize BitVec.ofInt 64 bi = n3 at *
  have HB := Lib.hid hB
  have HE := Lib.hid hE
  clear hB hE hN e0 e1 e2 e3
  have hv0 : RowKit.Hid (BytesAt All (w.alloc (.cells #[.int .u8 kd, .int .u16 a0, .int .u16 a1, .int .u32 bi, U su] 27)) (.slice a l cap) (bs ++ []) ∧ Agrees All w (w.alloc (.cells #[.int .u8 kd, .int .u16 a0, .int .u16 a1, .int .u32 bi, U su] 27))) :=
    ⟨by rw [List.append_nil]; exact HV.out.agrees ((Agrees.refl All w).alloc _) (fun _ h => h), (Agrees.refl All w).alloc _⟩
  go_loopw [0, 24] (fun c ii wr => ∃ (i : Nat) (v : Value) (ys : List (BitVec 8)), i ≤ 5 ∧ ii = .int .i64 i ∧ v = c ∧ RowKit.Hid (ys = (([(n0, 1), (n1, 2), (n2, 2), (n3, 4), (su, 8)].take i).map numBytes).flatten) ∧ RowKit.Hid (BytesAt All wr v (bs ++ ys) ∧ Agrees All w wr)) (fun _ ii _ => 5 - (intOf ii).toNat)
  case atStart => exact ⟨0, _, [], by omega, rfl, rfl, rfl, hv0⟩
  case round =>
    obtain ⟨i, v, ys, hi, rfl, rfl, HY, HW⟩ := hrel
    obtain ⟨av, nv, cv, rfl, hnv, _⟩ := id HW.out.1
    have hcell : ∀ j (u : Value), widthCells[j]? = some u → wr.cell? ⟨0, j, none⟩ = some u := HG.out.agrees HW.out.2
    have hyl : ys.length ≤ 17 := by
      rw [HY.out]
      have : i = 0 ∨ i = 1 ∨ i = 2 ∨ i = 3 ∨ i = 4 ∨ i = 5 := by omega
      rcases this with rfl | rfl | rfl | rfl | rfl | rfl <;> simp [numBytes]
    have hnl : nv ≤ 100000 := by rw [← hnv]; simp; omega
    by_cases hlt : i < 5
    · have hstep : ∀ (n : BitVec 64) (m : Nat), [(n0, 1), (n1, 2), (n2, 2), (n3, 4), (su, 8)][i]? = some (n, m) → (((([(n0, 1), (n1, 2), (n2, 2), (n3, 4), (su, 8)] : List (BitVec 64 × Nat)).take (i + 1)).map numBytes).flatten = ys ++ (List.range m).map (byteN n)) := by
        intro n m h
        rw [List.take_add_one, h, List.map_append, List.flatten_append, HY.out]
        simp [numBytes]
      obtain ⟨ni, mi, i1, i2, i3, i4⟩ : ∃ (ni : BitVec 64) (mi : Nat), (#[U n0, U n1, U n2, U n3, U su] : Array Value)[i]? = some (U ni) ∧ widthCells[i]? = some (.int .i64 mi) ∧ [(n0, 1), (n1, 2), (n2, 2), (n3, 4), (su, 8)][i]? = some (ni, mi) ∧ (mi : Int) = max (min (mi : Int) 8) 1 := by
        have hcases : i = 0 ∨ i = 1 ∨ i = 2 ∨ i = 3 ∨ i = 4 := by omega
        rcases hcases with rfl | rfl | rfl | rfl | rfl
        · exact ⟨n0, 1, rfl, rfl, rfl, by decide⟩
        · exact ⟨n1, 2, rfl, rfl, rfl, by decide⟩
        · exact ⟨n2, 2, rfl, rfl, rfl, by decide⟩
        · exact ⟨n3, 4, rfl, rfl, rfl, by decide⟩
        · exact ⟨su, 8, rfl, rfl, rfl, by decide⟩
      have HS := Lib.hid (hstep ni mi i3)
      have HP := Lib.hid (packPut_calls av nv cv (bs ++ ys) ni mi mi i4 wr (by omega) HW.out.1)
      have hc := hcell i _ i2
      have I1 := Lib.hid i1
      clear hstep hcell i1 i2 i3 i4
      go_wp2_with (refine wpList_val rfl (ex_index1 (T := 47) rfl Tryd.underlying47 (fun cs i v h => part_u64 cs i v _ h) (by kernel_rfl) #[U n0, U n1, U n2, U n3, U su] rfl (i : Int) rfl (by omega) (by omega) _ (by simpa using I1.out)) ?_)
      refine HP.out.mono ?_
      rintro e w2 ⟨v2, rfl, hown, hag⟩
      have HW2 : RowKit.Hid (BytesAt All w2 v2 (bs ++ (ys ++ (List.range mi).map (byteN ni))) ∧ Agrees All w w2) := ⟨by rw [← List.append_assoc]; exact own_bytes hown, HW.out.2.trans hag⟩
      clear hown hag
      go_wp2_with fail
      exact ⟨⟨i + 1, v2, _, by omega, by simp, rfl, HS.out.symm, HW2⟩, by simp [intOf]; omega⟩
    · obtain rfl : i = 5 := by omega
      go_wp2_with fail
      go_ret
      refine ⟨_, rfl, ?_, HW.out.2⟩
      have e : ys = (Ptr.mk kd a0 a1 bi su).bytes := by rw [HY.out, HE.out]; rfl
      rw [← e]; exact HW.out.1
end Suture
