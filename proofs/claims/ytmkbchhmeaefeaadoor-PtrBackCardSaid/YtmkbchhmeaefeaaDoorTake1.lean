/-
  A POINTER's BYTES, TAKEN: ptr.Take of enough bytes.
  Conditions: the widths are where they were laid.
-/
import Derived.Test.YtmkbchhmeaefeaaDoorWakes05
import Derived.Test.YtmkbchhmeaefeaaDoorBoxes
namespace Suture
open Go Go.RowKit Go.Proofs

def takeAt (bs : List (BitVec 8)) (o m : Nat) : BitVec 64 := leNum ((bs.drop o).take m)
/-- the numbers that are taken -/
def takeNums (bs : List (BitVec 8)) : List (BitVec 64) := [takeAt bs 0 1, takeAt bs 1 2, takeAt bs 3 2, takeAt bs 5 4, takeAt bs 9 8]
def takePtr (bs : List (BitVec 8)) : Ptr :=
  ⟨((takeAt bs 0 1).setWidth 8).toNat, ((takeAt bs 1 2).setWidth 16).toNat, ((takeAt bs 3 2).setWidth 16).toNat, ((takeAt bs 5 4).setWidth 32).toNat, takeAt bs 9 8⟩
def takeRow (ns : List (BitVec 64)) (i : Nat) : Array Value := ((ns.take i ++ List.replicate (5 - i) 0#64).map U).toArray
theorem takeRow_cell (ns : List (BitVec 64)) (i : Nat) (hn : ns.length = 5) (hi : i < 5) : (takeRow ns i)[i]? = some (U 0#64) := by
  unfold takeRow
  rw [List.getElem?_toArray, List.getElem?_map, List.getElem?_append_right (by simp; omega)]
  have e : i - (ns.take i).length = 0 := by simp; omega
  rw [e, List.getElem?_replicate, if_pos (by omega)]; rfl
theorem takeRow_set (ns : List (BitVec 64)) (i : Nat) (hn : ns.length = 5) (hi : i < 5) (n : BitVec 64) (h : ns[i]? = some n) : (takeRow ns i).setIfInBounds i (U n) = takeRow ns (i + 1) := by
  unfold takeRow
  rw [List.setIfInBounds_toArray, ← List.map_set]
  congr 2
  rw [List.set_append_right _ _ (by simp; omega), List.take_add_one, h]
  have e : i - (ns.take i).length = 0 := by simp; omega
  rw [e, show 5 - i = (5 - (i + 1)) + 1 by omega, List.replicate_succ, List.set_cons_zero]
  simp
theorem takeRow_all (ns : List (BitVec 64)) (hn : ns.length = 5) : takeRow ns 5 = (ns.map U).toArray := by
  unfold takeRow
  rw [List.take_of_length_le (by omega)]
  simp
theorem run_convert_U16 {P : Program} (src dst : TypeId) (b : BitVec 64) (w : World) (hs : (P.underlying src).isSome = true) (hd : P.underlying dst = some (.int .u16)) :
    (convert src dst (U b)).run P w = .ok (.int .u16 ((b.setWidth 16).toNat : Int)) w := by
  unfold U
  have h : P.intKind dst = .u16 := by unfold Program.intKind; rw [hd]
  rw [run_convert_int w src dst _ _ hs (by rw [h]; exact hd), h, IntKind.wrap_u16]
  have e : ((b.setWidth 16).toNat : Int) = (b.toNat : Int) % 65536 := by rw [BitVec.toNat_setWidth]; omega
  rw [e]
theorem run_convert_U32 {P : Program} (src dst : TypeId) (b : BitVec 64) (w : World) (hs : (P.underlying src).isSome = true) (hd : P.underlying dst = some (.int .u32)) :
    (convert src dst (U b)).run P w = .ok (.int .u32 ((b.setWidth 32).toNat : Int)) w := by
  unfold U
  have h : P.intKind dst = .u32 := by unfold Program.intKind; rw [hd]
  rw [run_convert_int w src dst _ _ hs (by rw [h]; exact hd), h, IntKind.wrap_u32]
  have e : ((b.setWidth 32).toNat : Int) = (b.toNat : Int) % 4294967296 := by rw [BitVec.toNat_setWidth]; omega
  rw [e]
theorem part_int (cs : Array Value) (i : Nat) (v : Value) (w : World) (h : cs[i]? = some v) : (part 3 cs i).run Tryd.prog w = .ok v w := by
  simp [go_sem, h]
def widthO : List Nat := [0, 1, 3, 5, 9, 17]

/-- the world of ptr.Take, i numbers taken -/
structure TkW (w : World) (ns : List (BitVec 64)) (i : Nat) (W : World) : Prop where
  ag : Agrees All w W
  prow : W.heap[w.heap.size]? = some (.cells Ptr.zero.cells 27 (0, 0))
  row : W.heap[w.heap.size + 1]? = some (.cells (takeRow ns i) 47 (0, 0))
theorem TkW.agrees {w : World} {ns : List (BitVec 64)} {i : Nat} {W W' : World} (h : TkW w ns i W) (g : Agrees All W W') : TkW w ns i W' :=
  ⟨h.ag.trans g, (g.block _ (Array.getElem?_eq_some_iff.1 h.prow).1 trivial).trans h.prow, (g.block _ (Array.getElem?_eq_some_iff.1 h.row).1 trivial).trans h.row⟩
theorem TkW.step {w : World} {ns : List (BitVec 64)} {i : Nat} {W : World} (h : TkW w ns i W) (hn : ns.length = 5) (hi : i < 5) (n : BitVec 64) (hin : ns[i]? = some n) : TkW w ns (i + 1) (W.setCell ⟨w.heap.size + 1, i, none⟩ (U n)) := by
  refine ⟨h.ag.setCell (.inr (by show w.heap.size ≤ w.heap.size + 1; omega)) _, ?_, ?_⟩
  · rw [heap_setCell_other _ _ _ _ (by show w.heap.size ≠ w.heap.size + 1; omega)]; exact h.prow
  · rw [heap_setCell_same W _ _ _ _ _ h.row, takeRow_set ns i hn hi n hin]

attribute [local go_sem] run_convert_U16 run_convert_U32 in
set_option maxHeartbeats 2000000 in
set_option maxRecDepth 100000 in
theorem take_calls (a : Option Addr) (n cap : Nat) (bs : List (BitVec 8)) (hn : 17 ≤ n) (w : World) (hv : BytesAt All w (.slice a n cap) bs) (hg : Laid w) :
    Calls Tryd.prog 9 #[.slice a n cap] w fun e w' => ∃ v, e = .returned (.tuple #[.agg (takePtr bs).cells, v, .int .i64 0]) ∧ BytesAt All w' v (bs.drop 17) ∧ Agrees All w w' := by
  have HG := Lib.hid hg
  have HV := Lib.hid hv
  have HLEN := Lib.hid hv.len
  obtain ⟨ns, hns⟩ : ∃ ns, takeNums bs = ns := ⟨_, rfl⟩
  have HNL := Lib.hid (show ns.length = 5 by rw [← hns]; rfl)
  have HNS := Lib.hid hns
  clear hg hv hns
  obtain ⟨W0, hW0⟩ : ∃ W0, (w.alloc (.cells Ptr.zero.cells 27)).alloc (.cells #[.int .u64 0, .int .u64 0, .int .u64 0, .int .u64 0, .int .u64 0] 47) = W0 := ⟨_, rfl⟩
  have hT0 : TkW w ns 0 W0 := by
    refine ⟨?_, ?_, ?_⟩
    · rw [← hW0]; exact ((Agrees.refl _ w).alloc _).alloc _
    · rw [← hW0, heap_alloc_old _ _ (by simp)]; exact World.alloc_heap_new w _
    · rw [← hW0]
      have := World.alloc_heap_new (w.alloc (.cells Ptr.zero.cells 27)) (.cells #[.int .u64 0, .int .u64 0, .int .u64 0, .int .u64 0, .int .u64 0] 47); rw [World.size_alloc] at this
      rw [this]; rfl
  have HT0 := Lib.hid hT0
  have HL0 := Lib.hid (HG.out.agrees hT0.ag)
  clear hT0
  have hz : Ptr.zero.cells = #[.int .u8 0, .int .u16 0, .int .u16 0, .int .u32 0, .int .u64 0] := rfl
  rw [hz] at hW0
  clear hz
  go_enter Tryd.func9, Tryd.ntmps9
  go_wp2_with (refine wpList_val rfl (ex_load (ty := 49) rfl ⟨⟨_, Tryd.underlying49, rfl⟩, by kernel_rfl⟩ 0 0 rfl widthCells rfl (fun j hj => by rw [Nat.zero_add, HL0.out j _ (Array.getElem?_eq_getElem (xs := widthCells) hj)]; exact (Array.getElem?_eq_getElem (xs := widthCells) hj).symm)) ?_)
  have HB0 : RowKit.Hid (BytesAt (fun b => b < w.heap.size) W0 (.slice a n cap) (bs.drop (widthO.getD 0 0)) ∧ TkW w ns 0 W0) := ⟨HV.out.bound.agrees HT0.out.ag fun _ _ => trivial, HT0.out⟩
  clear hW0 HL0 HT0
  go_loopw [3, 15] (fun c ii wr => ∃ (i : Nat) (v : Value), i ≤ 5 ∧ ii = .int .i64 i ∧ v = c ∧ RowKit.Hid (BytesAt (fun b => b < w.heap.size) wr v (bs.drop (widthO.getD i 0)) ∧ TkW w ns i wr)) (fun _ ii _ => 5 - (intOf ii).toNat)
  case atStart => exact ⟨0, _, by omega, rfl, rfl, HB0⟩
  case round =>
    obtain ⟨i, v, hi, rfl, rfl, HW⟩ := hrel
    obtain ⟨av, nv, cv, rfl, hnv, _⟩ := id HW.out.1
    clear HB0
    by_cases hlt : i < 5
    · obtain ⟨m, i1, i2, i3, i4, i5⟩ : ∃ m : Nat, widthCells[i]? = some (.int .i64 m) ∧ (m : Int) = max (min (m : Int) 8) 1 ∧ widthO.getD i 0 + m = widthO.getD (i + 1) 0 ∧ ns[i]? = some (takeAt bs (widthO.getD i 0) m) ∧ widthO.getD i 0 + m ≤ 17 := by
        rw [← HNS.out]
        have hcases : i = 0 ∨ i = 1 ∨ i = 2 ∨ i = 3 ∨ i = 4 := by omega
        rcases hcases with rfl | rfl | rfl | rfl | rfl
        · exact ⟨1, rfl, by decide, rfl, rfl, by decide⟩
        · exact ⟨2, rfl, by decide, rfl, rfl, by decide⟩
        · exact ⟨2, rfl, by decide, rfl, rfl, by decide⟩
        · exact ⟨4, rfl, by decide, rfl, rfl, by decide⟩
        · exact ⟨8, rfl, by decide, rfl, rfl, by decide⟩
      have hnv2 : nv = n - widthO.getD i 0 := by
        have := HLEN.out
        rw [← hnv]; simp; omega
      have HP := Lib.hid (packTake_calls av nv cv (bs.drop (widthO.getD i 0)) m m i2 (by omega) wr (SliceAt.mono HW.out.1 fun _ _ => trivial))
      have HQ := Lib.hid (HW.out.1.slice m nv (by omega) (Nat.le_refl _))
      have I1 := Lib.hid i1
      have I3 := Lib.hid i3
      have I4 := Lib.hid i4
      have I5 := Lib.hid i5
      have HNV := Lib.hid hnv
      have HNV2 := Lib.hid hnv2
      clear i1 i2 i3 i4 i5 hnv hnv2
      go_wp2_with (refine wpList_val rfl (ex_index1 (T := 49) rfl Tryd.underlying49 (fun cs i v h => part_int cs i v _ h) (by kernel_rfl) widthCells rfl (i : Int) rfl (by omega) (by omega) _ (by simpa using I1.out)) ?_)
      refine HP.out.mono ?_
      rintro e w2 ⟨rfl, hag⟩
      have HT2 := Lib.hid (HW.out.2.agrees hag)
      have HB2 := Lib.hid (BytesAt.agrees HQ.out hag fun _ _ => trivial)
      have hc : w2.cell? ⟨w.heap.size + 1, i, none⟩ = some (U 0#64) := by rw [cell_of_row _ _ _ _ _ _ HT2.out.row]; exact takeRow_cell ns i HNL.out hlt
      have hf : w2.frozen? ⟨w.heap.size + 1, i, none⟩ = false := frozen_of_row _ _ _ _ _ HT2.out.row
      clear hag
      go_wp2_with fail
      refine ⟨⟨i + 1, _, by omega, by simp, rfl, ?_⟩, by simp [intOf]; omega⟩
      have e4 := I4.out
      refine ⟨?_, by simpa [takeAt] using HT2.out.step HNL.out hlt _ e4⟩
      have hb := HB2.out
      have e : ((bs.drop (widthO.getD i 0)).drop m).take (nv - m) = bs.drop (widthO.getD (i + 1) 0) := by
        rw [List.drop_drop, I3.out, List.take_of_length_le]
        rw [List.length_drop, HLEN.out]
        have := I3.out
        have := HNV2.out
        omega
      rw [e] at hb
      exact hb.agrees ((Agrees.refl (fun b => b ≠ w.heap.size + 1) w2).setCell (.inl (fun h => h rfl)) _) (fun b hb e => by omega)
    · obtain rfl : i = 5 := by omega
      have hrow := HW.out.2.row
      rw [takeRow_all ns HNL.out, ← HNS.out] at hrow
      have c0 : wr.cell? ⟨w.heap.size + 1, 0, none⟩ = some (U (takeAt bs 0 1)) := by rw [cell_of_row _ _ _ _ _ _ hrow]; rfl
      have c1 : wr.cell? ⟨w.heap.size + 1, 1, none⟩ = some (U (takeAt bs 1 2)) := by rw [cell_of_row _ _ _ _ _ _ hrow]; rfl
      have c2 : wr.cell? ⟨w.heap.size + 1, 2, none⟩ = some (U (takeAt bs 3 2)) := by rw [cell_of_row _ _ _ _ _ _ hrow]; rfl
      have c3 : wr.cell? ⟨w.heap.size + 1, 3, none⟩ = some (U (takeAt bs 5 4)) := by rw [cell_of_row _ _ _ _ _ _ hrow]; rfl
      have c4 : wr.cell? ⟨w.heap.size + 1, 4, none⟩ = some (U (takeAt bs 9 8)) := by rw [cell_of_row _ _ _ _ _ _ hrow]; rfl
      have HPR := Lib.hid HW.out.2.prow
      have HAG := Lib.hid HW.out.2.ag
      have HBS := Lib.hid HW.out.1
      have hTP : (takePtr bs).cells = #[B ((takeAt bs 0 1).setWidth 8), .int .u16 (((takeAt bs 1 2).toNat : Int) % 65536), .int .u16 (((takeAt bs 3 2).toNat : Int) % 65536), .int .u32 (((takeAt bs 5 4).toNat : Int) % 4294967296), U (takeAt bs 9 8)] := by
        simp [takePtr, Ptr.cells, B]
      generalize takeAt bs 0 1 = m0 at *
      generalize takeAt bs 1 2 = m1 at *
      generalize takeAt bs 3 2 = m2 at *
      generalize takeAt bs 5 4 = m3 at *
      generalize takeAt bs 9 8 = m4 at *
      have HTP := Lib.hid hTP
      clear hrow HW hTP
      go_wp2_with (refine wpList_unit rfl (ex_storeAll (ty := 27) rfl isAgg_ptr.2 w.heap.size rfl _ Ptr.zero.cells rfl rfl HPR.out rfl (by intro v hv; simp at hv; rcases hv with rfl | rfl | rfl | rfl | rfl <;> rfl)) ?_)
      rw [← HTP.out]
      have hrow := setRow_heap wr w.heap.size Ptr.zero.cells (takePtr bs).cells _ _ HPR.out
      refine bodyPost_ret (results_a1t2 rfl _ (b := w.heap.size) rfl isAgg_ptr (vs := (takePtr bs).cells) rfl ((takePtr bs).load hrow)) rfl ⟨_, rfl, ?_, HAG.out.setRow (.inr (Nat.le_refl _)) _⟩
      exact SliceAt.mono (BytesAt.agrees HBS.out ((Agrees.refl (fun b => b ≠ w.heap.size) wr).setRow (.inl (fun h => h rfl)) _) (fun b hb e => by omega)) fun _ _ => trivial
end Suture
