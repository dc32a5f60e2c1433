/-
  SAME INTS: sutureref03.Ints of two slices that read alike; a write's cells may be asked for ==.
  Conditions: none beyond the slices' own reading.
-/
import Derived.Test.YtmkbchhmeaefeaaFB11
namespace Suture
open Go Go.RowKit Go.Proofs
attribute [local go_sem] Oper.semAt_some

theorem onePagesL : IsOne Try.prog 33 := ⟨⟨_, Try.underlying33, rfl⟩, by kernel_rfl⟩
theorem oneWritesL : IsOne Try.prog 34 := ⟨⟨_, Try.underlying34, rfl⟩, by kernel_rfl⟩
theorem keyable_write : Keyable Try.prog 3 75 := ⟨by decide, by kernel_rfl, by kernel_rfl, by kernel_rfl⟩
theorem keyed_write (x : Int × List (BitVec 8)) (h : in64 x.1) (hl : x.2.length = 256) : Keyed Try.prog 3 75 (wrCells x) := by
  obtain ⟨z, p⟩ := x
  simp only at h hl
  unfold in64 at h
  obtain ⟨_, lp, hlp⟩ := keyed_page p hl
  have hsz : (wrCells (z, p)).toList = .int .i64 z :: (pageCells p).toList := by
    rw [pageCells_def]; unfold wrCells; rfl
  have hpl : (pageCells p).toList.length = 256 := by rw [Array.length_toList, pageCells_size, hl]
  have hwn : (wrCells (z, p)).size = 257 := by rw [← Array.length_toList, hsz, List.length_cons, hpl]
  have w0 : (Lit.int .i64 z).wf = true := by simp [Lit.wf, IntKind.min, IntKind.max, IntKind.signed, IntKind.bits]; omega
  have c0 : Try.prog.cellsOf 75 = 257 := by kernel_rfl
  have c1 : Try.prog.cellsOf 3 = 1 := by kernel_rfl
  have c2 : Try.prog.cellsOf 32 = 256 := by kernel_rfl
  have k : Try.prog.keyLits 2 3 [.int .i64 z] = some [.int .i64 z] := by unfold Program.keyLits; simp [Try.underlying3, w0]
  refine ⟨by simp [Value.formed, Try.underlying75, c0, hwn], .int .i64 z :: lp, ?_⟩
  rw [hsz]
  generalize hq : (pageCells p).toList = q at *
  have ht : q.take 256 = q := List.take_of_length_le (by omega)
  unfold Program.keyLits
  simp only [Try.underlying75]
  simp [c0, c1, c2, hpl, k, ht, hlp]

def vInts (b off b' off' n c c' k : Nat) (z : Int) : Nat → Value → Prop
  | 0, val => val = .slice (some ⟨b, off, none⟩) n c
  | 1, val => val = .int .i64 (k : Int)
  | 2, val => val = .pointer (some ⟨b, off + k * 1, none⟩)
  | 3, val => val = .int .i64 z
  | 4, val => val = .slice (some ⟨b', off', none⟩) n c'
  | 5, val => val = .int .i64 (k : Int)
  | 6, val => val = .pointer (some ⟨b', off' + k * 1, none⟩)
  | 7, val => val = .int .i64 z
  | 8, val => val = .bool false
  | _, _ => True
set_option maxHeartbeats 4000000 in
set_option maxRecDepth 100000 in
theorem rints_calls (l : List Int) (a a' : Option Addr) (n c c' : Nat) (w : World) (h : CellsAt All w (.slice a n c) 1 n (l.map intL).flatten) (h' : CellsAt All w (.slice a' n c') 1 n (l.map intL).flatten) (hl : l.length = n) :
    Calls Try.prog 61 #[.slice a n c, .slice a' n c'] w fun e w' => e = .returned (.bool true) ∧ Agrees All w w' := by
  have hmax := h.max.1
  have H := Lib.hid h
  have H' := Lib.hid h'
  have HL := Lib.hid hl
  clear h h' hl
  go_enter Try.func61, Try.ntmps61
  go_wp2_with fail
  go_loopw [5] (fun ii wr => ∃ k : Nat, k ≤ n ∧ ii = .int .i64 k ∧ RowKit.Hid (Agrees All w wr)) (fun ii _ => n - (intOf ii).toNat)
  case atStart => exact ⟨0, by omega, rfl, Lib.hid (Agrees.refl _ _)⟩
  case round =>
    obtain ⟨k, hk, rfl, HW⟩ := hrel
    by_cases hlt : k < n
    · obtain ⟨z, hz⟩ : ∃ z, l[k]? = some z := ⟨_, List.getElem?_eq_getElem (by rw [HL.out]; exact hlt)⟩
      obtain ⟨W0, hW0⟩ : ∃ W0, wr.drew = W0 := ⟨_, rfl⟩
      have HAG0 : RowKit.Hid (Agrees All w W0) := by rw [← hW0]; exact Lib.hid HW.out.drew
      obtain ⟨b, off, rfl, _, hb0, hc0⟩ := CellsAt.elem (f := intL) (H.out.agrees HAG0.out fun _ h => h) (fun y hy => rfl) (by omega) hz
      obtain ⟨b', off', rfl, _, hb1, hc1⟩ := CellsAt.elem (f := intL) (H'.out.agrees HAG0.out fun _ h => h) (fun y hy => rfl) (by omega) hz
      have HX0 : RowKit.Hid (W0.cell? ⟨b, off + k * 1, none⟩ = some (.int .i64 z)) := hc0 0 (by omega)
      have HX1 : RowKit.Hid (W0.cell? ⟨b', off' + k * 1, none⟩ = some (.int .i64 z)) := hc1 0 (by omega)
      have HB0 := Lib.hid hb0
      have HB1 := Lib.hid hb1
      clear hc0 hc1 hb0 hb1 hz
      go_wp2_with fail
      have hbl := HB0.out
      have hbl' := HB1.out
      have hx0 := HX0.out
      have hx1 := HX1.out
      refine wp_region_plan (by kernel_rfl) ?hok (by kernel_rfl) (vInts b off b' off' n c c' k z) (fun _ _ W => Agrees All W0 W) ?h0 (fun i hi => ?steps) ?hend
      case hok => kernel_rfl
      case h0 => exact fun vals => by rw [hW0]; exact Agrees.refl _ _
      case steps =>
        have hi' : i < 9 := hi
        match i, hi' with
          | 0, _ =>
            refine steps_of rfl ?_
            intro L aq wq hL hd st wi
            have o0 := st.outside (t := 0) rfl (v := .slice (some ⟨b, off, none⟩) n c) rfl
            exact opTo_val (v := .slice (some ⟨b, off, none⟩) n c) rfl (ex_move (.inl rfl) (eval_tmp o0)) ⟨(fun h => by cases h), rfl, wi⟩
          | 1, _ =>
            refine steps_of rfl ?_
            intro L aq wq hL hd st wi
            have o5 := st.outside (t := 5) rfl (v := .int .i64 (k : Int)) rfl
            exact opTo_val (v := .int .i64 (k : Int)) rfl (ex_move (.inl rfl) (eval_tmp o5)) ⟨(fun h => by cases h), rfl, wi⟩
          | 2, _ =>
            refine steps_of rfl ?_
            intro L aq wq hL hd st wi
            obtain ⟨u0, e0, V0⟩ := st.val 0 _ _ rfl rfl (hd ⟨0, .data⟩ (by simp) rfl)
            obtain rfl : .slice (some ⟨b, off, none⟩) n c = u0 := V0.symm
            obtain ⟨u1, e1, V1⟩ := st.val 1 _ _ rfl rfl (hd ⟨1, .data⟩ (by simp) rfl)
            obtain rfl : .int .i64 (k : Int) = u1 := V1.symm
            exact opTo_val (v := .pointer (some ⟨b, off + k * 1, none⟩)) rfl (ex_idx rfl Try.underlying35 oneInt.2 b off n c k (eval_tmp e0) (eval_tmp e1) hlt) ⟨(fun h => by cases h), rfl, wi⟩
          | 3, _ =>
            refine steps_of rfl ?_
            intro L aq wq hL hd st wi
            obtain ⟨u2, e2, V2⟩ := st.val 2 _ _ rfl rfl (hd ⟨2, .data⟩ (by simp) rfl)
            obtain rfl : .pointer (some ⟨b, off + k * 1, none⟩) = u2 := V2.symm
            exact opTo_val (v := .int .i64 z) rfl (ex_load1 (ty := 3) rfl oneInt (eval_tmp e2) ((wi.cell (p := ⟨b, off + k * 1, none⟩) hbl trivial).trans hx0)) ⟨(fun h => by cases h), rfl, wi⟩
          | 4, _ =>
            refine steps_of rfl ?_
            intro L aq wq hL hd st wi
            have o1 := st.outside (t := 1) rfl (v := .slice (some ⟨b', off', none⟩) n c') rfl
            exact opTo_val (v := .slice (some ⟨b', off', none⟩) n c') rfl (ex_move (.inl rfl) (eval_tmp o1)) ⟨(fun h => by cases h), rfl, wi⟩
          | 5, _ =>
            refine steps_of rfl ?_
            intro L aq wq hL hd st wi
            have o5 := st.outside (t := 5) rfl (v := .int .i64 (k : Int)) rfl
            exact opTo_val (v := .int .i64 (k : Int)) rfl (ex_move (.inl rfl) (eval_tmp o5)) ⟨(fun h => by cases h), rfl, wi⟩
          | 6, _ =>
            refine steps_of rfl ?_
            intro L aq wq hL hd st wi
            obtain ⟨u4, e4, V4⟩ := st.val 4 _ _ rfl rfl (hd ⟨4, .data⟩ (by simp) rfl)
            obtain rfl : .slice (some ⟨b', off', none⟩) n c' = u4 := V4.symm
            obtain ⟨u5, e5, V5⟩ := st.val 5 _ _ rfl rfl (hd ⟨5, .data⟩ (by simp) rfl)
            obtain rfl : .int .i64 (k : Int) = u5 := V5.symm
            exact opTo_val (v := .pointer (some ⟨b', off' + k * 1, none⟩)) rfl (ex_idx rfl Try.underlying35 oneInt.2 b' off' n c' k (eval_tmp e4) (eval_tmp e5) hlt) ⟨(fun h => by cases h), rfl, wi⟩
          | 7, _ =>
            refine steps_of rfl ?_
            intro L aq wq hL hd st wi
            obtain ⟨u6, e6, V6⟩ := st.val 6 _ _ rfl rfl (hd ⟨6, .data⟩ (by simp) rfl)
            obtain rfl : .pointer (some ⟨b', off' + k * 1, none⟩) = u6 := V6.symm
            exact opTo_val (v := .int .i64 z) rfl (ex_load1 (ty := 3) rfl oneInt (eval_tmp e6) ((wi.cell (p := ⟨b', off' + k * 1, none⟩) hbl' trivial).trans hx1)) ⟨(fun h => by cases h), rfl, wi⟩
          | 8, _ =>
            refine steps_of rfl ?_
            intro L aq wq hL hd st wi
            obtain ⟨u3, e3, V3⟩ := st.val 3 _ _ rfl rfl (hd ⟨3, .data⟩ (by simp) rfl)
            obtain rfl : .int .i64 z = u3 := V3.symm
            obtain ⟨u7, e7, V7⟩ := st.val 7 _ _ rfl rfl (hd ⟨7, .data⟩ (by simp) rfl)
            obtain rfl : .int .i64 z = u7 := V7.symm
            exact opTo_val (v := .bool false) rfl (by simp [go_sem, Act.eval, e3, e7]) ⟨(fun h => by cases h), rfl, wi⟩
          | (i + 9), h => omega
      case hend =>
        intro vals w' hV hW
        have x8 : vals 8 = .bool false := hV 8 _ _ rfl rfl
        simp only [putAll, Act.put, List.setIfInBounds_toArray, List.set_cons_succ, List.set_cons_zero, x8]
        have HAW := Lib.hid (HAG0.out.trans hW)
        clear hV hW x8 hbl hbl' hx0 hx1 hW0 HX0 HX1 HB0 HB1
        go_wp2_with fail
        exact ⟨⟨k + 1, by omega, by simp, HAW⟩, by simp [intOf]; omega⟩
    · obtain rfl : k = n := by omega
      go_wp2_with fail
      go_ret
      exact ⟨rfl, HW.out⟩
end Suture
/-
  SAME DISKS: sutureref03.Same of two disks that read alike.
  Conditions: none beyond the disks' own reading.
-/
namespace Suture
open Go Go.RowKit Go.Proofs
attribute [local go_sem] Oper.semAt_some

def vSameP (db0 db1 b off b' off' n c c' k : Nat) (p : List (BitVec 8)) : Nat → Value → Prop
  | 0, val => val = .pointer (some ⟨db0, 0, none⟩)
  | 1, val => val = .slice (some ⟨b, off, none⟩) n c
  | 2, val => val = .int .i64 (k : Int)
  | 3, val => val = .pointer (some ⟨b, off + k * 256, none⟩)
  | 4, val => val = .agg (pageCells p)
  | 5, val => val = .pointer (some ⟨db1, 0, none⟩)
  | 6, val => val = .slice (some ⟨b', off', none⟩) n c'
  | 7, val => val = .int .i64 (k : Int)
  | 8, val => val = .pointer (some ⟨b', off' + k * 256, none⟩)
  | 9, val => val = .agg (pageCells p)
  | 10, val => val = .bool false
  | _, _ => True
def vSameC (db0 db1 b off b' off' n c c' k : Nat) (x : Int × List (BitVec 8)) : Nat → Value → Prop
  | 0, val => val = .pointer (some ⟨db0, 1, none⟩)
  | 1, val => val = .slice (some ⟨b, off, none⟩) n c
  | 2, val => val = .int .i64 (k : Int)
  | 3, val => val = .pointer (some ⟨b, off + k * 257, none⟩)
  | 4, val => val = .agg (wrCells x)
  | 5, val => val = .pointer (some ⟨db1, 1, none⟩)
  | 6, val => val = .slice (some ⟨b', off', none⟩) n c'
  | 7, val => val = .int .i64 (k : Int)
  | 8, val => val = .pointer (some ⟨b', off' + k * 257, none⟩)
  | 9, val => val = .agg (wrCells x)
  | 10, val => val = .bool false
  | _, _ => True
set_option maxHeartbeats 8000000 in
set_option maxRecDepth 100000 in
theorem dsame_calls (v v' : DV) (d : Disk) (w : World) (hv : DiskAt All w v d) (hv' : DiskAt All w v' d) :
    Calls Try.prog 49 #[.agg v.cells, .agg v'.cells] w fun e w' => e = .returned (.bool true) ∧ Agrees All w w' := by
  obtain ⟨pa, pn, pc, ca, cn, cc, ba, bn, bc, off⟩ := v
  obtain ⟨pa', pn', pc', ca', cn', cc', ba', bn', bc', off'⟩ := v'
  obtain rfl : pn = pn' := hv.pn.symm.trans hv'.pn
  obtain rfl : cn = cn' := hv.cn.symm.trans hv'.cn
  obtain rfl : bn = bn' := hv.bn.symm.trans hv'.bn
  obtain rfl : off = off' := hv.off.symm.trans hv'.off
  obtain ⟨w1, hw1⟩ : ∃ w1, w.alloc (.cells (DV.mk pa pn pc ca cn cc ba bn bc off).cells 37) = w1 := ⟨_, rfl⟩
  obtain ⟨w2, hw2⟩ : ∃ w2, w1.alloc (.cells (DV.mk pa' pn pc' ca' cn cc' ba' bn bc' off).cells 37) = w2 := ⟨_, rfl⟩
  have hs1 : w1.heap.size = w.heap.size + 1 := by rw [← hw1]; simp
  have HA2 := Lib.hid (show Agrees All w w2 by rw [← hw2, ← hw1]; exact ((Agrees.refl _ w).alloc _).alloc _)
  have HR0 := Lib.hid (show w2.heap[w.heap.size]? = some (.cells (DV.mk pa pn pc ca cn cc ba bn bc off).cells 37 (0, 0)) by rw [← hw2, ← hw1]; exact row_old (row_new _ rfl))
  have HR1 := Lib.hid (show w2.heap[w.heap.size + 1]? = some (.cells (DV.mk pa' pn pc' ca' cn cc' ba' bn bc' off).cells 37 (0, 0)) by rw [← hw2]; exact row_new _ hs1)
  have hmp := hv.pages.max.1
  have hmc := hv.cache.max.1
  have hmb := hv.bad.max.1
  have HPN := Lib.hid hv.pn
  have HCN := Lib.hid hv.cn
  have HI := Lib.hid (rints_calls d.bad ba ba' bn bc bc' w2 (hv.bad.agrees HA2.out fun _ h => h) (hv'.bad.agrees HA2.out fun _ h => h) hv.bn)
  have HV := Lib.hid hv
  have HV' := Lib.hid hv'
  clear hv hv'
  simp only at hmp hmc hmb HPN HCN
  go_enter Try.func49, Try.ntmps49
  have c0 : w2.cell? ⟨w.heap.size, 0, none⟩ = some (.slice pa pn pc) := by rw [cell_of_row _ _ _ _ _ _ HR0.out]; rfl
  have c1 : w2.cell? ⟨w.heap.size, 1, none⟩ = some (.slice ca cn cc) := by rw [cell_of_row _ _ _ _ _ _ HR0.out]; rfl
  have c2 : w2.cell? ⟨w.heap.size, 2, none⟩ = some (.slice ba bn bc) := by rw [cell_of_row _ _ _ _ _ _ HR0.out]; rfl
  have c3 : w2.cell? ⟨w.heap.size, 3, none⟩ = some (.bool off) := by rw [cell_of_row _ _ _ _ _ _ HR0.out]; rfl
  have e0 : w2.cell? ⟨w.heap.size + 1, 0, none⟩ = some (.slice pa' pn pc') := by rw [cell_of_row _ _ _ _ _ _ HR1.out]; rfl
  have e1 : w2.cell? ⟨w.heap.size + 1, 1, none⟩ = some (.slice ca' cn cc') := by rw [cell_of_row _ _ _ _ _ _ HR1.out]; rfl
  have e2 : w2.cell? ⟨w.heap.size + 1, 2, none⟩ = some (.slice ba' bn bc') := by rw [cell_of_row _ _ _ _ _ _ HR1.out]; rfl
  have e3 : w2.cell? ⟨w.heap.size + 1, 3, none⟩ = some (.bool off) := by rw [cell_of_row _ _ _ _ _ _ HR1.out]; rfl
  go_wp2_with fail
  refine HI.out.mono ?_
  rintro e w3 ⟨rfl, hag⟩
  have HAG := Lib.hid hag
  clear hag HI c0 c1 c2 c3 e0 e1 e2 e3 hw1 hw2 hs1
  go_wp2_with fail
  go_loopw [5] (fun ii wr => ∃ k : Nat, k ≤ pn ∧ ii = .int .i64 k ∧ RowKit.Hid (Agrees All w2 wr)) (fun ii _ => pn - (intOf ii).toNat)
  case atStart => exact ⟨0, by omega, rfl, Lib.hid HAG.out⟩
  case round =>
    obtain ⟨k, hk, rfl, HW⟩ := hrel
    have c0 : wr.cell? ⟨w.heap.size, 0, none⟩ = some (.slice pa pn pc) := by rw [cell_of_row _ _ _ _ _ _ ((HW.out.block _ (Array.getElem?_eq_some_iff.1 HR0.out).1 trivial).trans HR0.out)]; rfl
    by_cases hlt : k < pn
    · obtain ⟨p, hx⟩ : ∃ p, d.pages[k]? = some p := ⟨_, List.getElem?_eq_getElem (by rw [HPN.out]; exact hlt)⟩
      obtain ⟨W0, hW0⟩ : ∃ W0, wr.drew = W0 := ⟨_, rfl⟩
      have HAG0 : RowKit.Hid (Agrees All w2 W0) := by rw [← hW0]; exact Lib.hid HW.out.drew
      have HAGw := Lib.hid (HA2.out.trans HAG0.out)
      have HM := Lib.hid (List.mem_of_getElem? hx)
      obtain ⟨b, off, rfl, _, hb0, hc0⟩ := CellsAt.elem (f := pageL) (HV.out.pages.agrees HAGw.out fun _ h => h) (fun y hy => by rw [pageL_length]; exact HV.out.ok.page y hy) (by omega) hx
      obtain ⟨b', off', rfl, _, hb1, hc1⟩ := CellsAt.elem (f := pageL) (HV'.out.pages.agrees HAGw.out fun _ h => h) (fun y hy => by rw [pageL_length]; exact HV.out.ok.page y hy) (by omega) hx
      have HS0 : RowKit.Hid (W0.cell? ⟨w.heap.size, 0, none⟩ = some (.slice (some ⟨b, off, none⟩) pn pc)) := by rw [cell_of_row _ _ _ _ _ _ ((HAG0.out.block _ (Array.getElem?_eq_some_iff.1 HR0.out).1 trivial).trans HR0.out)]; exact Lib.hid rfl
      have HS1 : RowKit.Hid (W0.cell? ⟨w.heap.size + 1, 0, none⟩ = some (.slice (some ⟨b', off', none⟩) pn pc')) := by rw [cell_of_row _ _ _ _ _ _ ((HAG0.out.block _ (Array.getElem?_eq_some_iff.1 HR1.out).1 trivial).trans HR1.out)]; exact Lib.hid rfl
      have HD0 := Lib.hid (Nat.lt_of_lt_of_le (Array.getElem?_eq_some_iff.1 HR0.out).1 HAG0.out.size)
      have HD1 := Lib.hid (Nat.lt_of_lt_of_le (Array.getElem?_eq_some_iff.1 HR1.out).1 HAG0.out.size)
      have HC0 := Lib.hid hc0
      have HC1 := Lib.hid hc1
      have HB0 := Lib.hid hb0
      have HB1 := Lib.hid hb1
      have HKD := Lib.hid (keyed_page p (HV.out.ok.page p HM.out))
      have HSZ := Lib.hid ((by rw [pageCells_size]; exact HV.out.ok.page p HM.out : (pageCells p).size = 256))
      clear hc0 hc1 hb0 hb1 hx
      go_wp2_with fail
      have hd0 := HD0.out
      have hd1 := HD1.out
      have hs0 := HS0.out
      have hs1 := HS1.out
      have hb0 := HB0.out
      have hb1 := HB1.out
      have hc0 := fun j hj => (HC0.out j hj).trans (pageL_get p j)
      have hc1 := fun j hj => (HC1.out j hj).trans (pageL_get p j)
      have hkd := HKD.out
      have hsz := HSZ.out
      refine wp_region_plan (by kernel_rfl) ?hok5 (by kernel_rfl) (vSameP w.heap.size (w.heap.size + 1) b off b' off' pn pc pc' k p) (fun _ _ W => Agrees All W0 W) ?h05 (fun i hi => ?steps5) ?hend5
      case hok5 => kernel_rfl
      case h05 => exact fun vals => by rw [hW0]; exact Agrees.refl _ _
      case steps5 =>
        generalize w.heap.size + 1 = db1 at *
        generalize w.heap.size = db0 at *
        generalize pn = n at *
        generalize pc = c at *
        generalize pc' = c' at *
        have hi' : i < 11 := hi
        match i, hi' with
          | 0, _ =>
            refine steps_of rfl ?_
            intro L aq wq hL hd st wi
            have o2 := st.outside (t := 2) rfl (v := .pointer (some ⟨db0, 0, none⟩)) rfl
            exact opTo_val (v := .pointer (some ⟨db0, 0, none⟩)) rfl (by simp [go_sem, Act.eval, o2]) ⟨(fun h => by cases h), rfl, wi⟩
          | 1, _ =>
            refine steps_of rfl ?_
            intro L aq wq hL hd st wi
            obtain ⟨u0, e0, V0⟩ := st.val 0 _ _ rfl rfl (hd ⟨0, .data⟩ (by simp) rfl)
            obtain rfl : .pointer (some ⟨db0, 0, none⟩) = u0 := V0.symm
            exact opTo_val (v := .slice (some ⟨b, off, none⟩) n c) rfl (ex_load1 (ty := 33) rfl onePagesL (eval_tmp e0) ((wi.cell (p := ⟨db0, 0, none⟩) hd0 trivial).trans hs0)) ⟨(fun h => by cases h), rfl, wi⟩
          | 2, _ =>
            refine steps_of rfl ?_
            intro L aq wq hL hd st wi
            have o5 := st.outside (t := 5) rfl (v := .int .i64 (k : Int)) rfl
            exact opTo_val (v := .int .i64 (k : Int)) rfl (ex_move (.inl rfl) (eval_tmp o5)) ⟨(fun h => by cases h), rfl, wi⟩
          | 3, _ =>
            refine steps_of rfl ?_
            intro L aq wq hL hd st wi
            obtain ⟨u1, e1, V1⟩ := st.val 1 _ _ rfl rfl (hd ⟨1, .data⟩ (by simp) rfl)
            obtain rfl : .slice (some ⟨b, off, none⟩) n c = u1 := V1.symm
            obtain ⟨u2, e2, V2⟩ := st.val 2 _ _ rfl rfl (hd ⟨2, .data⟩ (by simp) rfl)
            obtain rfl : .int .i64 (k : Int) = u2 := V2.symm
            exact opTo_val (v := .pointer (some ⟨b, off + k * 256, none⟩)) rfl (ex_idx rfl Try.underlying33 isAgg_page.2 b off n c k (eval_tmp e1) (eval_tmp e2) hlt) ⟨(fun h => by cases h), rfl, wi⟩
          | 4, _ =>
            refine steps_of rfl ?_
            intro L aq wq hL hd st wi
            obtain ⟨u3, e3, V3⟩ := st.val 3 _ _ rfl rfl (hd ⟨3, .data⟩ (by simp) rfl)
            obtain rfl : .pointer (some ⟨b, off + k * 256, none⟩) = u3 := V3.symm
            exact opTo_val (v := .agg (pageCells p)) rfl (ex_load rfl isAgg_page b (off + k * 256) (eval_tmp e3) (pageCells p) hsz (fun j hj => (wi.cell (p := ⟨b, off + k * 256 + j, none⟩) hb0 trivial).trans (hc0 j hj))) ⟨(fun h => by cases h), rfl, wi⟩
          | 5, _ =>
            refine steps_of rfl ?_
            intro L aq wq hL hd st wi
            have o3 := st.outside (t := 3) rfl (v := .pointer (some ⟨db1, 0, none⟩)) rfl
            exact opTo_val (v := .pointer (some ⟨db1, 0, none⟩)) rfl (by simp [go_sem, Act.eval, o3]) ⟨(fun h => by cases h), rfl, wi⟩
          | 6, _ =>
            refine steps_of rfl ?_
            intro L aq wq hL hd st wi
            obtain ⟨u5, e5, V5⟩ := st.val 5 _ _ rfl rfl (hd ⟨5, .data⟩ (by simp) rfl)
            obtain rfl : .pointer (some ⟨db1, 0, none⟩) = u5 := V5.symm
            exact opTo_val (v := .slice (some ⟨b', off', none⟩) n c') rfl (ex_load1 (ty := 33) rfl onePagesL (eval_tmp e5) ((wi.cell (p := ⟨db1, 0, none⟩) hd1 trivial).trans hs1)) ⟨(fun h => by cases h), rfl, wi⟩
          | 7, _ =>
            refine steps_of rfl ?_
            intro L aq wq hL hd st wi
            have o5 := st.outside (t := 5) rfl (v := .int .i64 (k : Int)) rfl
            exact opTo_val (v := .int .i64 (k : Int)) rfl (ex_move (.inl rfl) (eval_tmp o5)) ⟨(fun h => by cases h), rfl, wi⟩
          | 8, _ =>
            refine steps_of rfl ?_
            intro L aq wq hL hd st wi
            obtain ⟨u6, e6, V6⟩ := st.val 6 _ _ rfl rfl (hd ⟨6, .data⟩ (by simp) rfl)
            obtain rfl : .slice (some ⟨b', off', none⟩) n c' = u6 := V6.symm
            obtain ⟨u7, e7, V7⟩ := st.val 7 _ _ rfl rfl (hd ⟨7, .data⟩ (by simp) rfl)
            obtain rfl : .int .i64 (k : Int) = u7 := V7.symm
            exact opTo_val (v := .pointer (some ⟨b', off' + k * 256, none⟩)) rfl (ex_idx rfl Try.underlying33 isAgg_page.2 b' off' n c' k (eval_tmp e6) (eval_tmp e7) hlt) ⟨(fun h => by cases h), rfl, wi⟩
          | 9, _ =>
            refine steps_of rfl ?_
            intro L aq wq hL hd st wi
            obtain ⟨u8, e8, V8⟩ := st.val 8 _ _ rfl rfl (hd ⟨8, .data⟩ (by simp) rfl)
            obtain rfl : .pointer (some ⟨b', off' + k * 256, none⟩) = u8 := V8.symm
            exact opTo_val (v := .agg (pageCells p)) rfl (ex_load rfl isAgg_page b' (off' + k * 256) (eval_tmp e8) (pageCells p) hsz (fun j hj => (wi.cell (p := ⟨b', off' + k * 256 + j, none⟩) hb1 trivial).trans (hc1 j hj))) ⟨(fun h => by cases h), rfl, wi⟩
          | 10, _ =>
            refine steps_of rfl ?_
            intro L aq wq hL hd st wi
            obtain ⟨u4, e4, V4⟩ := st.val 4 _ _ rfl rfl (hd ⟨4, .data⟩ (by simp) rfl)
            obtain rfl : .agg (pageCells p) = u4 := V4.symm
            obtain ⟨u9, e9, V9⟩ := st.val 9 _ _ rfl rfl (hd ⟨9, .data⟩ (by simp) rfl)
            obtain rfl : .agg (pageCells p) = u9 := V9.symm
            refine opTo_neq keyable_page hkd hkd rfl rfl (eval_tmp e4) (eval_tmp e9) (fun r hr => ⟨(fun h => by cases h), ?_, wi⟩)
            obtain rfl := hr.2 rfl
            rfl
          | (i + 11), h => omega
      case hend5 =>
        intro vals w' hV hW
        have x10 : vals 10 = .bool false := hV 10 _ _ rfl rfl
        simp only [putAll, Act.put, List.setIfInBounds_toArray, List.set_cons_succ, List.set_cons_zero, x10]
        have HAW := Lib.hid (HAG0.out.trans hW)
        clear hV hW x10 hd0 hd1 hs0 hs1 hb0 hb1 hc0 hc1 hkd hsz hW0 HS0 HS1 HD0 HD1 HC0 HC1 HB0 HB1 HKD HSZ
        go_wp2_with fail
        exact ⟨⟨k + 1, by omega, by simp, HAW⟩, by simp [intOf]; omega⟩
    · obtain rfl : k = pn := by omega
      have HAG := HW
      clear HW
      go_wp2_with fail
      clear c0
      go_loopw [6] (fun ii wr => ∃ k : Nat, k ≤ cn ∧ ii = .int .i64 k ∧ RowKit.Hid (Agrees All w2 wr)) (fun ii _ => cn - (intOf ii).toNat)
      case atStart => exact ⟨0, by omega, rfl, Lib.hid HAG.out⟩
      case round =>
        obtain ⟨k, hk, rfl, HW⟩ := hrel
        have c0 : wr.cell? ⟨w.heap.size, 1, none⟩ = some (.slice ca cn cc) := by rw [cell_of_row _ _ _ _ _ _ ((HW.out.block _ (Array.getElem?_eq_some_iff.1 HR0.out).1 trivial).trans HR0.out)]; rfl
        by_cases hlt : k < cn
        · obtain ⟨x, hx⟩ : ∃ x, d.cache[k]? = some x := ⟨_, List.getElem?_eq_getElem (by rw [HCN.out]; exact hlt)⟩
          obtain ⟨W0, hW0⟩ : ∃ W0, wr.drew = W0 := ⟨_, rfl⟩
          have HAG0 : RowKit.Hid (Agrees All w2 W0) := by rw [← hW0]; exact Lib.hid HW.out.drew
          have HAGw := Lib.hid (HA2.out.trans HAG0.out)
          have HM := Lib.hid (List.mem_of_getElem? hx)
          obtain ⟨b, off, rfl, _, hb0, hc0⟩ := CellsAt.elem (f := wrL) (HV.out.cache.agrees HAGw.out fun _ h => h) (fun y hy => by rw [wrL_length, (HV.out.ok.wr y hy).2]) (by omega) hx
          obtain ⟨b', off', rfl, _, hb1, hc1⟩ := CellsAt.elem (f := wrL) (HV'.out.cache.agrees HAGw.out fun _ h => h) (fun y hy => by rw [wrL_length, (HV.out.ok.wr y hy).2]) (by omega) hx
          have HS0 : RowKit.Hid (W0.cell? ⟨w.heap.size, 1, none⟩ = some (.slice (some ⟨b, off, none⟩) cn cc)) := by rw [cell_of_row _ _ _ _ _ _ ((HAG0.out.block _ (Array.getElem?_eq_some_iff.1 HR0.out).1 trivial).trans HR0.out)]; exact Lib.hid rfl
          have HS1 : RowKit.Hid (W0.cell? ⟨w.heap.size + 1, 1, none⟩ = some (.slice (some ⟨b', off', none⟩) cn cc')) := by rw [cell_of_row _ _ _ _ _ _ ((HAG0.out.block _ (Array.getElem?_eq_some_iff.1 HR1.out).1 trivial).trans HR1.out)]; exact Lib.hid rfl
          have HD0 := Lib.hid (Nat.lt_of_lt_of_le (Array.getElem?_eq_some_iff.1 HR0.out).1 HAG0.out.size)
          have HD1 := Lib.hid (Nat.lt_of_lt_of_le (Array.getElem?_eq_some_iff.1 HR1.out).1 HAG0.out.size)
          have HC0 := Lib.hid hc0
          have HC1 := Lib.hid hc1
          have HB0 := Lib.hid hb0
          have HB1 := Lib.hid hb1
          have HKD := Lib.hid (keyed_write x (HV.out.ok.wr x HM.out).1 (HV.out.ok.wr x HM.out).2)
          have HSZ := Lib.hid ((by unfold wrCells; rw [List.size_toArray]; rw [wrL_length, (HV.out.ok.wr x HM.out).2] : (wrCells x).size = 257))
          clear hc0 hc1 hb0 hb1 hx
          go_wp2_with fail
          have hd0 := HD0.out
          have hd1 := HD1.out
          have hs0 := HS0.out
          have hs1 := HS1.out
          have hb0 := HB0.out
          have hb1 := HB1.out
          have hc0 := fun j hj => (HC0.out j hj).trans ((fun x j => (wrCells_get x j).symm) x j)
          have hc1 := fun j hj => (HC1.out j hj).trans ((fun x j => (wrCells_get x j).symm) x j)
          have hkd := HKD.out
          have hsz := HSZ.out
          refine wp_region_plan (by kernel_rfl) ?hok6 (by kernel_rfl) (vSameC w.heap.size (w.heap.size + 1) b off b' off' cn cc cc' k x) (fun _ _ W => Agrees All W0 W) ?h06 (fun i hi => ?steps6) ?hend6
          case hok6 => kernel_rfl
          case h06 => exact fun vals => by rw [hW0]; exact Agrees.refl _ _
          case steps6 =>
            generalize w.heap.size + 1 = db1 at *
            generalize w.heap.size = db0 at *
            generalize cn = n at *
            generalize cc = c at *
            generalize cc' = c' at *
            have hi' : i < 11 := hi
            match i, hi' with
              | 0, _ =>
                refine steps_of rfl ?_
                intro L aq wq hL hd st wi
                have o2 := st.outside (t := 2) rfl (v := .pointer (some ⟨db0, 0, none⟩)) rfl
                exact opTo_val (v := .pointer (some ⟨db0, 1, none⟩)) rfl (by simp [go_sem, Act.eval, o2]) ⟨(fun h => by cases h), rfl, wi⟩
              | 1, _ =>
                refine steps_of rfl ?_
                intro L aq wq hL hd st wi
                obtain ⟨u0, e0, V0⟩ := st.val 0 _ _ rfl rfl (hd ⟨0, .data⟩ (by simp) rfl)
                obtain rfl : .pointer (some ⟨db0, 1, none⟩) = u0 := V0.symm
                exact opTo_val (v := .slice (some ⟨b, off, none⟩) n c) rfl (ex_load1 (ty := 34) rfl oneWritesL (eval_tmp e0) ((wi.cell (p := ⟨db0, 1, none⟩) hd0 trivial).trans hs0)) ⟨(fun h => by cases h), rfl, wi⟩
              | 2, _ =>
                refine steps_of rfl ?_
                intro L aq wq hL hd st wi
                have o6 := st.outside (t := 6) rfl (v := .int .i64 (k : Int)) rfl
                exact opTo_val (v := .int .i64 (k : Int)) rfl (ex_move (.inl rfl) (eval_tmp o6)) ⟨(fun h => by cases h), rfl, wi⟩
              | 3, _ =>
                refine steps_of rfl ?_
                intro L aq wq hL hd st wi
                obtain ⟨u1, e1, V1⟩ := st.val 1 _ _ rfl rfl (hd ⟨1, .data⟩ (by simp) rfl)
                obtain rfl : .slice (some ⟨b, off, none⟩) n c = u1 := V1.symm
                obtain ⟨u2, e2, V2⟩ := st.val 2 _ _ rfl rfl (hd ⟨2, .data⟩ (by simp) rfl)
                obtain rfl : .int .i64 (k : Int) = u2 := V2.symm
                exact opTo_val (v := .pointer (some ⟨b, off + k * 257, none⟩)) rfl (ex_idx rfl Try.underlying34 isAgg_write.2 b off n c k (eval_tmp e1) (eval_tmp e2) hlt) ⟨(fun h => by cases h), rfl, wi⟩
              | 4, _ =>
                refine steps_of rfl ?_
                intro L aq wq hL hd st wi
                obtain ⟨u3, e3, V3⟩ := st.val 3 _ _ rfl rfl (hd ⟨3, .data⟩ (by simp) rfl)
                obtain rfl : .pointer (some ⟨b, off + k * 257, none⟩) = u3 := V3.symm
                exact opTo_val (v := .agg (wrCells x)) rfl (ex_load rfl isAgg_write b (off + k * 257) (eval_tmp e3) (wrCells x) hsz (fun j hj => (wi.cell (p := ⟨b, off + k * 257 + j, none⟩) hb0 trivial).trans (hc0 j hj))) ⟨(fun h => by cases h), rfl, wi⟩
              | 5, _ =>
                refine steps_of rfl ?_
                intro L aq wq hL hd st wi
                have o3 := st.outside (t := 3) rfl (v := .pointer (some ⟨db1, 0, none⟩)) rfl
                exact opTo_val (v := .pointer (some ⟨db1, 1, none⟩)) rfl (by simp [go_sem, Act.eval, o3]) ⟨(fun h => by cases h), rfl, wi⟩
              | 6, _ =>
                refine steps_of rfl ?_
                intro L aq wq hL hd st wi
                obtain ⟨u5, e5, V5⟩ := st.val 5 _ _ rfl rfl (hd ⟨5, .data⟩ (by simp) rfl)
                obtain rfl : .pointer (some ⟨db1, 1, none⟩) = u5 := V5.symm
                exact opTo_val (v := .slice (some ⟨b', off', none⟩) n c') rfl (ex_load1 (ty := 34) rfl oneWritesL (eval_tmp e5) ((wi.cell (p := ⟨db1, 1, none⟩) hd1 trivial).trans hs1)) ⟨(fun h => by cases h), rfl, wi⟩
              | 7, _ =>
                refine steps_of rfl ?_
                intro L aq wq hL hd st wi
                have o6 := st.outside (t := 6) rfl (v := .int .i64 (k : Int)) rfl
                exact opTo_val (v := .int .i64 (k : Int)) rfl (ex_move (.inl rfl) (eval_tmp o6)) ⟨(fun h => by cases h), rfl, wi⟩
              | 8, _ =>
                refine steps_of rfl ?_
                intro L aq wq hL hd st wi
                obtain ⟨u6, e6, V6⟩ := st.val 6 _ _ rfl rfl (hd ⟨6, .data⟩ (by simp) rfl)
                obtain rfl : .slice (some ⟨b', off', none⟩) n c' = u6 := V6.symm
                obtain ⟨u7, e7, V7⟩ := st.val 7 _ _ rfl rfl (hd ⟨7, .data⟩ (by simp) rfl)
                obtain rfl : .int .i64 (k : Int) = u7 := V7.symm
                exact opTo_val (v := .pointer (some ⟨b', off' + k * 257, none⟩)) rfl (ex_idx rfl Try.underlying34 isAgg_write.2 b' off' n c' k (eval_tmp e6) (eval_tmp e7) hlt) ⟨(fun h => by cases h), rfl, wi⟩
              | 9, _ =>
                refine steps_of rfl ?_
                intro L aq wq hL hd st wi
                obtain ⟨u8, e8, V8⟩ := st.val 8 _ _ rfl rfl (hd ⟨8, .data⟩ (by simp) rfl)
                obtain rfl : .pointer (some ⟨b', off' + k * 257, none⟩) = u8 := V8.symm
                exact opTo_val (v := .agg (wrCells x)) rfl (ex_load rfl isAgg_write b' (off' + k * 257) (eval_tmp e8) (wrCells x) hsz (fun j hj => (wi.cell (p := ⟨b', off' + k * 257 + j, none⟩) hb1 trivial).trans (hc1 j hj))) ⟨(fun h => by cases h), rfl, wi⟩
              | 10, _ =>
                refine steps_of rfl ?_
                intro L aq wq hL hd st wi
                obtain ⟨u4, e4, V4⟩ := st.val 4 _ _ rfl rfl (hd ⟨4, .data⟩ (by simp) rfl)
                obtain rfl : .agg (wrCells x) = u4 := V4.symm
                obtain ⟨u9, e9, V9⟩ := st.val 9 _ _ rfl rfl (hd ⟨9, .data⟩ (by simp) rfl)
                obtain rfl : .agg (wrCells x) = u9 := V9.symm
                refine opTo_neq keyable_write hkd hkd rfl rfl (eval_tmp e4) (eval_tmp e9) (fun r hr => ⟨(fun h => by cases h), ?_, wi⟩)
                obtain rfl := hr.2 rfl
                rfl
              | (i + 11), h => omega
          case hend6 =>
            intro vals w' hV hW
            have x10 : vals 10 = .bool false := hV 10 _ _ rfl rfl
            simp only [putAll, Act.put, List.setIfInBounds_toArray, List.set_cons_succ, List.set_cons_zero, x10]
            have HAW := Lib.hid (HAG0.out.trans hW)
            clear hV hW x10 hd0 hd1 hs0 hs1 hb0 hb1 hc0 hc1 hkd hsz hW0 HS0 HS1 HD0 HD1 HC0 HC1 HB0 HB1 HKD HSZ
            go_wp2_with fail
            exact ⟨⟨k + 1, by omega, by simp, HAW⟩, by simp [intOf]; omega⟩
        · obtain rfl : k = cn := by omega
          have HF := Lib.hid (HA2.out.trans HW.out)
          clear HW
          go_wp2_with fail
          go_ret
          exact ⟨rfl, HF.out⟩
end Suture
/-
  SAME PAIRS: sutureref10.Same of two pairs that read alike.
  Conditions: none beyond the pairs' own reading.
-/
namespace Suture
open Go Go.RowKit Go.Proofs
attribute [local go_sem] Oper.semAt_some

set_option maxHeartbeats 8000000 in
set_option maxRecDepth 100000 in
theorem same_calls (v v' : PV) (P : Pair) (w : World) (hv : PairAt All w v P) (hv' : PairAt All w v' P) :
    Calls Try.prog 34 #[.agg v.cells, .agg v'.cells] w fun e w' => e = .returned (.bool true) ∧ Agrees All w w' := by
  obtain ⟨w1, hw1⟩ : ∃ w1, w.alloc (.cells v.cells 40) = w1 := ⟨_, rfl⟩
  obtain ⟨w2, hw2⟩ : ∃ w2, w1.alloc (.cells v'.cells 40) = w2 := ⟨_, rfl⟩
  have hs1 : w1.heap.size = w.heap.size + 1 := by rw [← hw1]; simp
  have HA2 := Lib.hid (show Agrees All w w2 by rw [← hw2, ← hw1]; exact ((Agrees.refl _ w).alloc _).alloc _)
  have HR0 := Lib.hid (show w2.heap[w.heap.size]? = some (.cells v.cells 40 (0, 0)) by rw [← hw2, ← hw1]; exact row_old (row_new _ rfl))
  have HR1 := Lib.hid (show w2.heap[w.heap.size + 1]? = some (.cells v'.cells 40 (0, 0)) by rw [← hw2]; exact row_new _ hs1)
  have hfu : v'.fuse = v.fuse := hv'.fuse.symm.trans hv.fuse
  have hdn : v'.down = v.down := hv'.down.symm.trans hv.down
  have c8 : w2.cell? ⟨w.heap.size, 8, none⟩ = some (.int .i64 v.fuse) := by rw [cell_of_row _ _ _ _ _ _ HR0.out]; rfl
  have c9 : w2.cell? ⟨w.heap.size, 9, none⟩ = some (.bool v.down) := by rw [cell_of_row _ _ _ _ _ _ HR0.out]; rfl
  have e8 : w2.cell? ⟨w.heap.size + 1, 8, none⟩ = some (.int .i64 v.fuse) := by rw [cell_of_row _ _ _ _ _ _ HR1.out, ← hfu]; rfl
  have e9 : w2.cell? ⟨w.heap.size + 1, 9, none⟩ = some (.bool v.down) := by rw [cell_of_row _ _ _ _ _ _ HR1.out, ← hdn]; rfl
  have HV := Lib.hid hv
  have HV' := Lib.hid hv'
  have HS0 := Lib.hid (dsame_calls v.d0 v'.d0 P.d0 w2 (hv.d0.agrees HA2.out fun _ h => h) (hv'.d0.agrees HA2.out fun _ h => h))
  clear hv hv' hfu hdn
  go_enter Try.func34, Try.ntmps34
  go_wp2_with (first
    | (refine wpList_val rfl (ex_load (ty := 37) rfl isAgg_disk w.heap.size (0 * 4) rfl v.d0.cells rfl (v.loadDisk HR0.out 0 (by omega))) ?_)
    | (refine wpList_val rfl (ex_load (ty := 37) rfl isAgg_disk (w.heap.size + 1) (0 * 4) rfl v'.d0.cells rfl (v'.loadDisk HR1.out 0 (by omega))) ?_))
  refine HS0.out.mono ?_
  rintro e w3 ⟨rfl, hag⟩
  have HA3 := Lib.hid (HA2.out.trans hag)
  have HQ0 := Lib.hid ((hag.block _ (Array.getElem?_eq_some_iff.1 HR0.out).1 trivial).trans HR0.out)
  have HQ1 := Lib.hid ((hag.block _ (Array.getElem?_eq_some_iff.1 HR1.out).1 trivial).trans HR1.out)
  have HS1 := Lib.hid (dsame_calls v.d1 v'.d1 P.d1 w3 (HV.out.d1.agrees HA3.out fun _ h => h) (HV'.out.d1.agrees HA3.out fun _ h => h))
  clear hag HS0 c8 c9 e8 e9 hw1 hw2 hs1
  go_wp2_with (first
    | (refine wpList_val rfl (ex_load (ty := 37) rfl isAgg_disk w.heap.size (1 * 4) rfl v.d1.cells rfl (v.loadDisk HQ0.out 1 (by omega))) ?_)
    | (refine wpList_val rfl (ex_load (ty := 37) rfl isAgg_disk (w.heap.size + 1) (1 * 4) rfl v'.d1.cells rfl (v'.loadDisk HQ1.out 1 (by omega))) ?_))
  refine HS1.out.mono ?_
  rintro e w4 ⟨rfl, hag⟩
  have HA4 := Lib.hid (HA3.out.trans hag)
  clear hag
  go_wp2_with fail
  go_ret
  exact ⟨rfl, HA4.out⟩
end Suture
/-
  READING AND SCANNING, side by side, in plain Lean.
  Conditions: none.
-/
namespace Suture
open Go Go.RowKit Go.Proofs

theorem mend_low (pg : List (BitVec 8)) : ∀ (bs : List (Int × Int)) (P : Pair) (m : Int), P.low → (mendAll pg bs P m).1.low
  | [], _, _, h => h
  | b :: l, P, m, h => by
    rw [mendAll]
    split
    · exact mend_low pg l _ _ (h.put _ _ _)
    · exact h.put _ _ _
theorem mend_off (pg : List (BitVec 8)) {j : Nat} (hj : j < 2) : ∀ (bs : List (Int × Int)) (P : Pair) (m : Int), (∀ c ∈ bs, onPair c) → ((mendAll pg bs P m).1.disk j).off = (P.disk j).off
  | [], _, _, _ => rfl
  | b :: l, P, m, h => by
    have hb := onPair_lt (h b (by simp))
    rw [mendAll]
    split
    · rw [mend_off pg hj l _ _ (fun c hc => h c (by simp [hc])), pput_off hb hj]
    · exact pput_off hb hj
theorem mend_append (pg : List (BitVec 8)) : ∀ (l1 l2 : List (Int × Int)) (P : Pair) (m : Int), mendAll pg (l1 ++ l2) P m = if (mendAll pg l1 P m).2.2 = 0 then mendAll pg l2 (mendAll pg l1 P m).1 (mendAll pg l1 P m).2.1 else mendAll pg l1 P m
  | [], l2, P, m => by simp [mendAll]
  | b :: l, l2, P, m => by
    rw [List.cons_append, mendAll, mendAll]
    by_cases he : P.putE b.1.toNat b.2 = 0
    · rw [if_pos he, if_pos he]; exact mend_append pg l l2 _ _
    · rw [if_neg he, if_neg he]
      dsimp only
      rw [if_neg he]
theorem look_split (rt : Int × Int → Bool) : ∀ l : List (Int × Int), l.any rt = true → ∃ l1 c l2, l = l1 ++ c :: l2 ∧ l1.any rt = false ∧ rt c = true ∧ lookN rt false l = l1.length + 1
  | [], h => by simp at h
  | c :: l, h => by
    cases hc : rt c with
    | true => exact ⟨[], c, l, rfl, rfl, hc, by unfold lookN; simp [hc]⟩
    | false =>
      obtain ⟨l1, d, l2, e1, e2, e3, e4⟩ := look_split rt l (by simpa [hc] using h)
      exact ⟨c :: l1, d, l2, by rw [e1]; rfl, by simp only [List.any_cons, hc, Bool.false_or]; exact e2, e3, by unfold lookN; simp [hc, e4]⟩

theorem badIn_none {P : Pair} {x : Ptr} {l : List (Int × Int)} (h : l.any (P.isRight x) = false) : P.badIn x l = l := by
  unfold Pair.badIn
  rw [List.filter_eq_self]
  intro c hc
  have := List.any_eq_false.1 h c hc
  simpa using this

theorem badLen (x : Ptr) (P : Pair) : (P.bad x).length ≤ 4 := by
  unfold Pair.bad
  split
  · unfold Pair.bads Pair.found
    have h1 := List.length_filter_le (fun c => !P.isRight x c) (x.copies.filter P.lives)
    have h2 := List.length_filter_le P.lives x.copies
    have h3 : x.copies.length ≤ 4 := by unfold Ptr.copies; split <;> simp
    omega
  · simp

/-- what a reading and a scan answer, side by side -/
structure MendsF (P : Pair) (x : Ptr) (r s : List (BitVec 8) × Pair × Tal × Int) : Prop where
  f1 : r.2.2.2 = 0 → x.fits r.1 = true ∧ r.2.2.1.r = r.2.2.1.b + 1 ∧ r.2.2.1.m = r.2.2.1.b
  f2 : s.2.2.2 = 0 → x.fits s.1 = true ∧ s.2.1.bad x = [] ∧ s.2.2.1.b = (P.bad x).length ∧ s.2.2.1.m = (P.bad x).length
  f3 : (r.2.2.2 ≠ 0 → r.1 = noPage) ∧ (s.2.2.2 ≠ 0 → s.1 = noPage)
  f4 : r.2.2.1.r ≤ s.2.2.1.r ∧ r.2.2.1.b ≤ s.2.2.1.b
  f5 : (P.bad x).length = 0 → r.2.1 = P ∧ s.2.1 = P
  f6 : r.2.2.2 = 50 → s.2.2.2 = 50 ∧ s.2.2.1.b = s.2.2.1.r ∧ r.2.1 = P
  f7 : s.2.2.2 = 0 → r.2.2.2 = 0
  low : P.low → s.2.1.low
  bnd : 0 ≤ r.2.2.1.b ∧ r.2.2.1.b ≤ 4

theorem scan_clean {P : Pair} {x : Ptr} (h : (P.look x true).2.2.2 = 0) : (P.look x true).2.1.bad x = [] := by
  have hS := scan_ok h
  have hall := hS.all
  have hb := bad_eq hS.asked
  have hoff : ∀ j, j < 2 → ((P.look x true).2.1.disk j).off = (P.disk j).off := fun j hj => by
    rw [look_true hS.asked, hS.some]
    unfold lookEnd
    have := mend_off (P.pageIn x (P.found x)) hj (P.bad x) P 0 (fun c hc => by rw [hb] at hc; exact found_on (List.mem_filter.1 hc).1)
    simp only [if_true]
    split <;> exact this
  generalize (P.look x true).2.1 = O at *
  unfold Pair.bad
  split
  · unfold Pair.bads
    rw [List.filter_eq_nil_iff]
    intro c hc
    have hc2 : c ∈ P.found x := by
      have h1 := List.mem_filter.1 hc
      refine List.mem_filter.2 ⟨h1.1, ?_⟩
      have h2 := h1.2
      unfold Pair.lives at h2 ⊢
      rw [hoff _ (onPair_lt (found_on hc))] at h2
      exact h2
    obtain ⟨a1, a2⟩ := hall c hc2
    unfold Pair.isRight Pair.has
    simp [a1, a2]
  · rfl

theorem mends (P : Pair) (x : Ptr) : MendsF P x (P.look x false) (P.look x true) := by
  have hcl := @scan_clean P x
  have hsc := @scan_ok P x
  by_cases ha : P.asked x = 0
  · have hb := bad_eq ha
    cases hs : (P.found x).any (P.isRight x) with
    | false =>
      have hseen : P.seen x false = P.found x := by
        unfold Pair.seen
        rw [lookN_done _ _ _ (fun _ => hs), List.take_length]
      have hf : P.look x false = P.look x true := by rw [look_of_seen ha hseen, look_of_seen ha (seen_all P x)]
      have ht : P.look x true = (noPage, P, ⟨(P.found x).length, (P.bad x).length, 0⟩, 50) := by
        rw [look_true ha, hs]
        unfold lookEnd
        rw [if_neg Bool.false_ne_true, pageIn_none hs]
      have hbl : P.bad x = P.found x := by rw [hb, badIn_none hs]
      rw [hf, ht]
      exact ⟨(fun h => by cases h), (fun h => by cases h), ⟨fun _ => rfl, fun _ => rfl⟩, ⟨Int.le_refl _, Int.le_refl _⟩, fun _ => ⟨rfl, rfl⟩, fun _ => ⟨rfl, (by rw [hbl]), rfl⟩, (fun h => by cases h), (fun h => h), ⟨Int.natCast_nonneg _, by have := badLen x P; show ((P.bad x).length : Int) ≤ 4; omega⟩⟩
    | true =>
      obtain ⟨l1, c, l2, e1, e2, e3, e4⟩ := look_split (P.isRight x) (P.found x) hs
      have hseen : P.seen x false = l1 ++ [c] := by
        unfold Pair.seen
        rw [e4, e1, List.take_append, List.take_of_length_le (by omega), Nat.add_sub_cancel_left]
        rfl
      have hany : (l1 ++ [c]).any (P.isRight x) = true := by simp [e3]
      have hbin : P.badIn x (l1 ++ [c]) = l1 := by rw [badIn_snoc, badIn_none e2, e3]; simp
      have hpin : P.pageIn x (l1 ++ [c]) = P.has c := pageIn_new e2 e3
      have hpall : P.pageIn x (P.found x) = P.has c := by
        rw [e1]
        unfold Pair.pageIn
        rw [List.find?_append, List.find?_eq_none.2 (by simpa using e2), List.find?_cons, e3]
        rfl
      have hball : P.bad x = l1 ++ P.badIn x l2 := by
        rw [hb, e1]
        have : P.badIn x (l1 ++ c :: l2) = P.badIn x l1 ++ P.badIn x l2 := by
          unfold Pair.badIn
          rw [List.filter_append, List.filter_cons, e3]
          rfl
        rw [this, badIn_none e2]
      have hr : P.look x false = lookEnd (P.has c) l1 P (l1.length + 1 : Nat) l1.length true := by
        rw [look_of_seen ha hseen, hany, hbin, hpin]
        simp
      have ht : P.look x true = lookEnd (P.has c) (l1 ++ P.badIn x l2) P (P.found x).length (P.bad x).length true := by
        rw [look_true ha, hs, hpall, hball]
      have hfit : x.fits (P.has c) = true := (right_read e3).2
      have hle : (l1.length + 1 : Nat) ≤ (P.found x).length := by rw [e1, List.length_append, List.length_cons]; omega
      have hlb : l1.length ≤ (P.bad x).length := by rw [hball, List.length_append]; omega
      have hm1 := fun h => (mend_read (P.has c) l1 P 0 (fun d hd => found_on (by rw [e1]; simp [hd])) h).2.2
      have hma := mend_append (P.has c) l1 (P.badIn x l2) P 0
      have hc1 := mend_codes (P.has c) l1 P 0
      have hlow := mend_low (P.has c) (l1 ++ P.badIn x l2) P 0
      have hz : (P.bad x).length = 0 → l1 = [] ∧ P.badIn x l2 = [] := fun h => by
        rw [hball] at h
        have := List.eq_nil_of_length_eq_zero h
        exact List.append_eq_nil_iff.1 this
      have hr1 : (P.look x false).2.1 = (mendAll (P.has c) l1 P 0).1 := by rw [hr]; unfold lookEnd; simp only [if_true]; split <;> rfl
      have hr2 : (P.look x false).2.2.1 = ⟨(l1.length + 1 : Nat), l1.length, (mendAll (P.has c) l1 P 0).2.1⟩ := by rw [hr]; unfold lookEnd; simp only [if_true]; split <;> rfl
      have hr3 : (P.look x false).2.2.2 = (mendAll (P.has c) l1 P 0).2.2 := by
        rw [hr]; unfold lookEnd; simp only [if_true]
        split
        · rename_i h; exact h.symm
        · rfl
      have hr4 : (P.look x false).2.2.2 = 0 → (P.look x false).1 = P.has c := fun h => by
        rw [hr3] at h
        rw [hr]; unfold lookEnd; simp only [if_true]; rw [if_pos h]
      have hr5 : (P.look x false).2.2.2 ≠ 0 → (P.look x false).1 = noPage := fun h => by
        rw [hr3] at h
        rw [hr]; unfold lookEnd; simp only [if_true]; rw [if_neg h]
      have ht1 : (P.look x true).2.1 = (mendAll (P.has c) (l1 ++ P.badIn x l2) P 0).1 := by rw [ht]; unfold lookEnd; simp only [if_true]; split <;> rfl
      have ht2 : (P.look x true).2.2.1 = ⟨(P.found x).length, (P.bad x).length, (mendAll (P.has c) (l1 ++ P.badIn x l2) P 0).2.1⟩ := by rw [ht]; unfold lookEnd; simp only [if_true]; split <;> rfl
      have ht3 : (P.look x true).2.2.2 = (mendAll (P.has c) (l1 ++ P.badIn x l2) P 0).2.2 := by
        rw [ht]; unfold lookEnd; simp only [if_true]
        split
        · rename_i h; exact h.symm
        · rfl
      have ht5 : (P.look x true).2.2.2 ≠ 0 → (P.look x true).1 = noPage := fun h => by
        rw [ht3] at h
        rw [ht]; unfold lookEnd; simp only [if_true]; rw [if_neg h]
      refine ⟨fun h => ⟨by rw [hr4 h]; exact hfit, by rw [hr2]; simp, by rw [hr2]; rw [hr3] at h; simp [hm1 h]⟩, fun h => ⟨(hsc h).page, hcl h, (hsc h).nbad, (hsc h).mended⟩, ⟨hr5, ht5⟩, ?_, fun h => ?_, fun h => ?_, fun h => ?_, (fun h => by rw [ht1]; exact hlow h), ⟨by rw [hr2]; exact Int.natCast_nonneg _, by have := badLen x P; rw [hr2]; show (l1.length : Int) ≤ 4; omega⟩⟩
      · rw [hr2, ht2]
        dsimp only
        omega
      · obtain ⟨z1, z2⟩ := hz h
        rw [hr1, ht1, z1, z2]
        exact ⟨rfl, rfl⟩
      · exfalso
        rw [hr3] at h
        exact hc1 h
      · rw [ht3, hma] at h
        rw [hr3]
        split at h
        · assumption
        · exact h
  · have hf : ∀ all, P.look x all = (noPage, P, ⟨0, 0, 0⟩, P.asked x) := fun all => by
      unfold Pair.look
      rw [if_pos ha]
    rw [hf false, hf true]
    exact ⟨fun h => (ha h).elim, fun h => (ha h).elim, ⟨fun _ => rfl, fun _ => rfl⟩, ⟨by simp, by simp⟩, fun _ => ⟨rfl, rfl⟩, fun h => ⟨h, rfl, rfl⟩, fun h => h, fun h => h, ⟨Int.le_refl _, by simp⟩⟩
end Suture
