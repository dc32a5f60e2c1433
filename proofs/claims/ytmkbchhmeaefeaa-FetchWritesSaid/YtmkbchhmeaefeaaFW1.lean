/-
  SAME INTS: sutureref03.Ints of two slices that read alike; a write's cells may be asked for ==.
  Conditions: none beyond the slices' own reading.
-/
import Derived.Test.YtmkbchhmeaefeaaFB11
namespace Suture
open Go Go.RowKit Go.Proofs
attribute [local go_sem] Oper.semAt_some

theorem onePagesL : IsOne Try.prog 33 := ⟨⟨_, Try.underlying33, rfl⟩, by kernel_rfl⟩
theorem oneWritesL : IsOne Try.prog 34 := ⟨⟨_, Try.underlying34, rfl⟩, by kernel_rfl⟩
theorem keyable_write : Keyable Try.prog 3 75 := ⟨by decide, by kernel_rfl, by kernel_rfl, by kernel_rfl⟩
theorem keyed_write (x : Int × List (BitVec 8)) (h : in64 x.1) (hl : x.2.length = 256) : Keyed Try.prog 3 75 (wrCells x) := by
  obtain ⟨z, p⟩ := x
  simp only at h hl
  unfold in64 at h
  obtain ⟨_, lp, hlp⟩ := keyed_page p hl
  have hsz : (wrCells (z, p)).toList = .int .i64 z :: (pageCells p).toList := by
    rw [pageCells_def]; unfold wrCells; rfl
  have hpl : (pageCells p).toList.length = 256 := by rw [Array.length_toList, pageCells_size, hl]
  have hwn : (wrCells (z, p)).size = 257 := by rw [← Array.length_toList, hsz, List.length_cons, hpl]
  have w0 : (Lit.int .i64 z).wf = true := by simp [Lit.wf, IntKind.min, IntKind.max, IntKind.signed, IntKind.bits]; omega
  have c0 : Try.prog.cellsOf 75 = 257 := by kernel_rfl
  have c1 : Try.prog.cellsOf 3 = 1 := by kernel_rfl
  have c2 : Try.prog.cellsOf 32 = 256 := by kernel_rfl
  have k : Try.prog.keyLits 2 3 [.int .i64 z] = some [.int .i64 z] := by unfold Program.keyLits; simp [Try.underlying3, w0]
  refine ⟨by simp [Value.formed, Try.underlying75, c0, hwn], .int .i64 z :: lp, ?_⟩
  rw [hsz]
  generalize hq : (pageCells p).toList = q at *
  have ht : q.take 256 = q := List.take_of_length_le (by omega)
  unfold Program.keyLits
  simp only [Try.underlying75]
  simp [c0, c1, c2, hpl, k, ht, hlp]

def vInts (b off b' off' n c c' k : Nat) (z : Int) : Nat → Value → Prop
  | 0, val => val = .slice (some ⟨b, off, none⟩) n c
  | 1, val => val = .int .i64 (k : Int)
  | 2, val => val = .pointer (some ⟨b, off + k * 1, none⟩)
  | 3, val => val = .int .i64 z
  | 4, val => val = .slice (some ⟨b', off', none⟩) n c'
  | 5, val => val = .int .i64 (k : Int)
  | 6, val => val = .pointer (some ⟨b', off' + k * 1, none⟩)
  | 7, val => val = .int .i64 z
  | 8, val => val = .bool false
  | _, _ => True
set_option maxHeartbeats 4000000 in
set_option maxRecDepth 100000 in
theorem rints_calls (l : List Int) (a a' : Option Addr) (n c c' : Nat) (w : World) (h : CellsAt All w (.slice a n c) 1 n (l.map intL).flatten) (h' : CellsAt All w (.slice a' n c') 1 n (l.map intL).flatten) (hl : l.length = n) :
    Calls Try.prog 61 #[.slice a n c, .slice a' n c'] w fun e w' => e = .returned (.bool true) ∧ Agrees All w w' := by
  have hmax := h.max.1
  have H := Lib.hid h
  have H' := Lib.hid h'
  have HL := Lib.hid hl
  clear h h' hl
  go_enter Try.func61, Try.ntmps61
  go_wp2_with fail
  go_loopw [5] (fun ii wr => ∃ k : Nat, k ≤ n ∧ ii = .int .i64 k ∧ RowKit.Hid (Agrees All w wr)) (fun ii _ => n - (intOf ii).toNat)
  case atStart => exact ⟨0, by omega, rfl, Lib.hid (Agrees.refl _ _)⟩
  case round =>
    obtain ⟨k, hk, rfl, HW⟩ := hrel
    by_cases hlt : k < n
    · obtain ⟨z, hz⟩ : ∃ z, l[k]? = some z := ⟨_, List.getElem?_eq_getElem (by rw [HL.out]; exact hlt)⟩
      obtain ⟨W0, hW0⟩ : ∃ W0, wr.drew = W0 := ⟨_, rfl⟩
      have HAG0 : RowKit.Hid (Agrees All w W0) := by rw [← hW0]; exact Lib.hid HW.out.drew
      obtain ⟨b, off, rfl, _, hb0, hc0⟩ := CellsAt.elem (f := intL) (H.out.agrees HAG0.out fun _ h => h) (fun y hy => rfl) (by omega) hz
      obtain ⟨b', off', rfl, _, hb1, hc1⟩ := CellsAt.elem (f := intL) (H'.out.agrees HAG0.out fun _ h => h) (fun y hy => rfl) (by omega) hz
      have HX0 : RowKit.Hid (W0.cell? ⟨b, off + k * 1, none⟩ = some (.int .i64 z)) := hc0 0 (by omega)
      have HX1 : RowKit.Hid (W0.cell? ⟨b', off' + k * 1, none⟩ = some (.int .i64 z)) := hc1 0 (by omega)
      have HB0 := Lib.hid hb0
      have HB1 := Lib.hid hb1
      clear hc0 hc1 hb0 hb1 hz
      go_wp2_with fail
      have hbl := HB0.out
      have hbl' := HB1.out
      have hx0 := HX0.out
      have hx1 := HX1.out
      refine wp_region_plan (by kernel_rfl) ?hok (by kernel_rfl) (vInts b off b' off' n c c' k z) (fun _ _ W => Agrees All W0 W) ?h0 (fun i hi => ?steps) ?hend
      case hok => kernel_rfl
      case h0 => exact fun vals => by rw [hW0]; exact Agrees.refl _ _
      case steps =>
        have hi' : i < 9 := hi
        match i, hi' with
          | 0, _ =>
            refine steps_of rfl ?_
            intro L aq wq hL hd st wi
            have o0 := st.outside (t := 0) rfl (v := .slice (some ⟨b, off, none⟩) n c) rfl
            exact opTo_val (v := .slice (some ⟨b, off, none⟩) n c) rfl (ex_move (.inl rfl) (eval_tmp o0)) ⟨(fun h => by cases h), rfl, wi⟩
          | 1, _ =>
            refine steps_of rfl ?_
            intro L aq wq hL hd st wi
            have o5 := st.outside (t := 5) rfl (v := .int .i64 (k : Int)) rfl
            exact opTo_val (v := .int .i64 (k : Int)) rfl (ex_move (.inl rfl) (eval_tmp o5)) ⟨(fun h => by cases h), rfl, wi⟩
          | 2, _ =>
            refine steps_of rfl ?_
            intro L aq wq hL hd st wi
            obtain ⟨u0, e0, V0⟩ := st.val 0 _ _ rfl rfl (hd ⟨0, .data⟩ (by simp) rfl)
            obtain rfl : .slice (some ⟨b, off, none⟩) n c = u0 := V0.symm
            obtain ⟨u1, e1, V1⟩ := st.val 1 _ _ rfl rfl (hd ⟨1, .data⟩ (by simp) rfl)
            obtain rfl : .int .i64 (k : Int) = u1 := V1.symm
            exact opTo_val (v := .pointer (some ⟨b, off + k * 1, none⟩)) rfl (ex_idx rfl Try.underlying35 oneInt.2 b off n c k (eval_tmp e0) (eval_tmp e1) hlt) ⟨(fun h => by cases h), rfl, wi⟩
          | 3, _ =>
            refine steps_of rfl ?_
            intro L aq wq hL hd st wi
            obtain ⟨u2, e2, V2⟩ := st.val 2 _ _ rfl rfl (hd ⟨2, .data⟩ (by simp) rfl)
            obtain rfl : .pointer (some ⟨b, off + k * 1, none⟩) = u2 := V2.symm
            exact opTo_val (v := .int .i64 z) rfl (ex_load1 (ty := 3) rfl oneInt (eval_tmp e2) ((wi.cell (p := ⟨b, off + k * 1, none⟩) hbl trivial).trans hx0)) ⟨(fun h => by cases h), rfl, wi⟩
          | 4, _ =>
            refine steps_of rfl ?_
            intro L aq wq hL hd st wi
            have o1 := st.outside (t := 1) rfl (v := .slice (some ⟨b', off', none⟩) n c') rfl
            exact opTo_val (v := .slice (some ⟨b', off', none⟩) n c') rfl (ex_move (.inl rfl) (eval_tmp o1)) ⟨(fun h => by cases h), rfl, wi⟩
          | 5, _ =>
            refine steps_of rfl ?_
            intro L aq wq hL hd st wi
            have o5 := st.outside (t := 5) rfl (v := .int .i64 (k : Int)) rfl
            exact opTo_val (v := .int .i64 (k : Int)) rfl (ex_move (.inl rfl) (eval_tmp o5)) ⟨(fun h => by cases h), rfl, wi⟩
          | 6, _ =>
            refine steps_of rfl ?_
            intro L aq wq hL hd st wi
            obtain ⟨u4, e4, V4⟩ := st.val 4 _ _ rfl rfl (hd ⟨4, .data⟩ (by simp) rfl)
            obtain rfl : .slice (some ⟨b', off', none⟩) n c' = u4 := V4.symm
            obtain ⟨u5, e5, V5⟩ := st.val 5 _ _ rfl rfl (hd ⟨5, .data⟩ (by simp) rfl)
            obtain rfl : .int .i64 (k : Int) = u5 := V5.symm
            exact opTo_val (v := .pointer (some ⟨b', off' + k * 1, none⟩)) rfl (ex_idx rfl Try.underlying35 oneInt.2 b' off' n c' k (eval_tmp e4) (eval_tmp e5) hlt) ⟨(fun h => by cases h), rfl, wi⟩
          | 7, _ =>
            refine steps_of rfl ?_
            intro L aq wq hL hd st wi
            obtain ⟨u6, e6, V6⟩ := st.val 6 _ _ rfl rfl (hd ⟨6, .data⟩ (by simp) rfl)
            obtain rfl : .pointer (some ⟨b', off' + k * 1, none⟩) = u6 := V6.symm
            exact opTo_val (v := .int .i64 z) rfl (ex_load1 (ty := 3) rfl oneInt (eval_tmp e6) ((wi.cell (p := ⟨b', off' + k * 1, none⟩) hbl' trivial).trans hx1)) ⟨(fun h => by cases h), rfl, wi⟩
          | 8, _ =>
            refine steps_of rfl ?_
            intro L aq wq hL hd st wi
            obtain ⟨u3, e3, V3⟩ := st.val 3 _ _ rfl rfl (hd ⟨3, .data⟩ (by simp) rfl)
            obtain rfl : .int .i64 z = u3 := V3.symm
            obtain ⟨u7, e7, V7⟩ := st.val 7 _ _ rfl rfl (hd ⟨7, .data⟩ (by simp) rfl)
            obtain rfl : .int .i64 z = u7 := V7.symm
            exact opTo_val (v := .bool false) rfl (by simp [go_sem, Act.eval, e3, e7]) ⟨(fun h => by cases h), rfl, wi⟩
          | (i + 9), h => omega
      case hend =>
        intro vals w' hV hW
        have x8 : vals 8 = .bool false := hV 8 _ _ rfl rfl
        simp only [putAll, Act.put, List.setIfInBounds_toArray, List.set_cons_succ, List.set_cons_zero, x8]
        have HAW := Lib.hid (HAG0.out.trans hW)
        clear hV hW x8 hbl hbl' hx0 hx1 hW0 HX0 HX1 HB0 HB1
        go_wp2_with fail
        exact ⟨⟨k + 1, by omega, by simp, HAW⟩, by simp [intOf]; omega⟩
    · obtain rfl : k = n := by omega
      go_wp2_with fail
      go_ret
      exact ⟨rfl, HW.out⟩
end Suture
/-
  SAME DISKS: sutureref03.Same of two disks that read alike.
  Conditions: none beyond the disks' own reading.
-/
namespace Suture
open Go Go.RowKit Go.Proofs
attribute [local go_sem] Oper.semAt_some

def vSameP (db0 db1 b off b' off' n c c' k : Nat) (p : List (BitVec 8)) : Nat → Value → Prop
  | 0, val => val = .pointer (some ⟨db0, 0, none⟩)
  | 1, val => val = .slice (some ⟨b, off, none⟩) n c
  | 2, val => val = .int .i64 (k : Int)
  | 3, val => val = .pointer (some ⟨b, off + k * 256, none⟩)
  | 4, val => val = .agg (pageCells p)
  | 5, val => val = .pointer (some ⟨db1, 0, none⟩)
  | 6, val => val = .slice (some ⟨b', off', none⟩) n c'
  | 7, val => val = .int .i64 (k : Int)
  | 8, val => val = .pointer (some ⟨b', off' + k * 256, none⟩)
  | 9, val => val = .agg (pageCells p)
  | 10, val => val = .bool false
  | _, _ => True
def vSameC (db0 db1 b off b' off' n c c' k : Nat) (x : Int × List (BitVec 8)) : Nat → Value → Prop
  | 0, val => val = .pointer (some ⟨db0, 1, none⟩)
  | 1, val => val = .slice (some ⟨b, off, none⟩) n c
  | 2, val => val = .int .i64 (k : Int)
  | 3, val => val = .pointer (some ⟨b, off + k * 257, none⟩)
  | 4, val => val = .agg (wrCells x)
  | 5, val => val = .pointer (some ⟨db1, 1, none⟩)
  | 6, val => val = .slice (some ⟨b', off', none⟩) n c'
  | 7, val => val = .int .i64 (k : Int)
  | 8, val => val = .pointer (some ⟨b', off' + k * 257, none⟩)
  | 9, val => val = .agg (wrCells x)
  | 10, val => val = .bool false
  | _, _ => True
set_option maxHeartbeats 8000000 in
set_option maxRecDepth 100000 in
theorem dsame_calls (v v' : DV) (d : Disk) (w : World) (hv : DiskAt All w v d) (hv' : DiskAt All w v' d) :
    Calls Try.prog 49 #[.agg v.cells, .agg v'.cells] w fun e w' => e = .returned (.bool true) ∧ Agrees All w w' := by
  obtain ⟨pa, pn, pc, ca, cn, cc, ba, bn, bc, off⟩ := v
  obtain ⟨pa', pn', pc', ca', cn', cc', ba', bn', bc', off'⟩ := v'
  obtain rfl : pn = pn' := hv.pn.symm.trans hv'.pn
  obtain rfl : cn = cn' := hv.cn.symm.trans hv'.cn
  obtain rfl : bn = bn' := hv.bn.symm.trans hv'.bn
  obtain rfl : off = off' := hv.off.symm.trans hv'.off
  obtain ⟨w1, hw1⟩ : ∃ w1, w.alloc (.cells (DV.mk pa pn pc ca cn cc ba bn bc off).cells 37) = w1 := ⟨_, rfl⟩
  obtain ⟨w2, hw2⟩ : ∃ w2, w1.alloc (.cells (DV.mk pa' pn pc' ca' cn cc' ba' bn bc' off).cells 37) = w2 := ⟨_, rfl⟩
  have hs1 : w1.heap.size = w.heap.size + 1 := by rw [← hw1]; simp
  have HA2 := Lib.hid (show Agrees All w w2 by rw [← hw2, ← hw1]; exact ((Agrees.refl _ w).alloc _).alloc _)
  have HR0 := Lib.hid (show w2.heap[w.heap.size]? = some (.cells (DV.mk pa pn pc ca cn cc ba bn bc off).cells 37 (0, 0)) by rw [← hw2, ← hw1]; exact row_old (row_new _ rfl))
  have HR1 := Lib.hid (show w2.heap[w.heap.size + 1]? = some (.cells (DV.mk pa' pn pc' ca' cn cc' ba' bn bc' off).cells 37 (0, 0)) by rw [← hw2]; exact row_new _ hs1)
  have hmp := hv.pages.max.1
  have hmc := hv.cache.max.1
  have hmb := hv.bad.max.1
  have HPN := Lib.hid hv.pn
  have HCN := Lib.hid hv.cn
  have HI := Lib.hid (rints_calls d.bad ba ba' bn bc bc' w2 (hv.bad.agrees HA2.out fun _ h => h) (hv'.bad.agrees HA2.out fun _ h => h) hv.bn)
  have HV := Lib.hid hv
  have HV' := Lib.hid hv'
  clear hv hv'
  simp only at hmp hmc hmb HPN HCN
  go_enter Try.func49, Try.ntmps49
  have c0 : w2.cell? ⟨w.heap.size, 0, none⟩ = some (.slice pa pn pc) := by rw [cell_of_row _ _ _ _ _ _ HR0.out]; rfl
  have c1 : w2.cell? ⟨w.heap.size, 1, none⟩ = some (.slice ca cn cc) := by rw [cell_of_row _ _ _ _ _ _ HR0.out]; rfl
  have c2 : w2.cell? ⟨w.heap.size, 2, none⟩ = some (.slice ba bn bc) := by rw [cell_of_row _ _ _ _ _ _ HR0.out]; rfl
  have c3 : w2.cell? ⟨w.heap.size, 3, none⟩ = some (.bool off) := by rw [cell_of_row _ _ _ _ _ _ HR0.out]; rfl
  have e0 : w2.cell? ⟨w.heap.size + 1, 0, none⟩ = some (.slice pa' pn pc') := by rw [cell_of_row _ _ _ _ _ _ HR1.out]; rfl
  have e1 : w2.cell? ⟨w.heap.size + 1, 1, none⟩ = some (.slice ca' cn cc') := by rw [cell_of_row _ _ _ _ _ _ HR1.out]; rfl
  have e2 : w2.cell? ⟨w.heap.size + 1, 2, none⟩ = some (.slice ba' bn bc') := by rw [cell_of_row _ _ _ _ _ _ HR1.out]; rfl
  have e3 : w2.cell? ⟨w.heap.size + 1, 3, none⟩ = some (.bool off) := by rw [cell_of_row _ _ _ _ _ _ HR1.out]; rfl
  go_wp2_with fail
  refine HI.out.mono ?_
  rintro e w3 ⟨rfl, hag⟩
  have HAG := Lib.hid hag
  clear hag HI c0 c1 c2 c3 e0 e1 e2 e3 hw1 hw2 hs1
  go_wp2_with fail
  go_loopw [5] (fun ii wr => ∃ k : Nat, k ≤ pn ∧ ii = .int .i64 k ∧ RowKit.Hid (Agrees All w2 wr)) (fun ii _ => pn - (intOf ii).toNat)
  case atStart => exact ⟨0, by omega, rfl, Lib.hid HAG.out⟩
  case round =>
    obtain ⟨k, hk, rfl, HW⟩ := hrel
    have c0 : wr.cell? ⟨w.heap.size, 0, none⟩ = some (.slice pa pn pc) := by rw [cell_of_row _ _ _ _ _ _ ((HW.out.block _ (Array.getElem?_eq_some_iff.1 HR0.out).1 trivial).trans HR0.out)]; rfl
    by_cases hlt : k < pn
    · obtain ⟨p, hx⟩ : ∃ p, d.pages[k]? = some p := ⟨_, List.getElem?_eq_getElem (by rw [HPN.out]; exact hlt)⟩
      obtain ⟨W0, hW0⟩ : ∃ W0, wr.drew = W0 := ⟨_, rfl⟩
      have HAG0 : RowKit.Hid (Agrees All w2 W0) := by rw [← hW0]; exact Lib.hid HW.out.drew
      have HAGw := Lib.hid (HA2.out.trans HAG0.out)
      have HM := Lib.hid (List.mem_of_getElem? hx)
      obtain ⟨b, off, rfl, _, hb0, hc0⟩ := CellsAt.elem (f := pageL) (HV.out.pages.agrees HAGw.out fun _ h => h) (fun y hy => by rw [pageL_length]; exact HV.out.ok.page y hy) (by omega) hx
      obtain ⟨b', off', rfl, _, hb1, hc1⟩ := CellsAt.elem (f := pageL) (HV'.out.pages.agrees HAGw.out fun _ h => h) (fun y hy => by rw [pageL_length]; exact HV.out.ok.page y hy) (by omega) hx
      have HS0 : RowKit.Hid (W0.cell? ⟨w.heap.size, 0, none⟩ = some (.slice (some ⟨b, off, none⟩) pn pc)) := by rw [cell_of_row _ _ _ _ _ _ ((HAG0.out.block _ (Array.getElem?_eq_some_iff.1 HR0.out).1 trivial).trans HR0.out)]; exact Lib.hid rfl
      have HS1 : RowKit.Hid (W0.cell? ⟨w.heap.size + 1, 0, none⟩ = some (.slice (some ⟨b', off', none⟩) pn pc')) := by rw [cell_of_row _ _ _ _ _ _ ((HAG0.out.block _ (Array.getElem?_eq_some_iff.1 HR1.out).1 trivial).trans HR1.out)]; exact Lib.hid rfl
      have HD0 := Lib.hid (Nat.lt_of_lt_of_le (Array.getElem?_eq_some_iff.1 HR0.out).1 HAG0.out.size)
      have HD1 := Lib.hid (Nat.lt_of_lt_of_le (Array.getElem?_eq_some_iff.1 HR1.out).1 HAG0.out.size)
      have HC0 := Lib.hid hc0
      have HC1 := Lib.hid hc1
      have HB0 := Lib.hid hb0
      have HB1 := Lib.hid hb1
      have HKD := Lib.hid (keyed_page p (HV.out.ok.page p HM.out))
      have HSZ := Lib.hid ((by rw [pageCells_size]; exact HV.out.ok.page p HM.out : (pageCells p).size = 256))
      clear hc0 hc1 hb0 hb1 hx
      go_wp2_with fail
      have hd0 := HD0.out
      have hd1 := HD1.out
      have hs0 := HS0.out
      have hs1 := HS1.out
      have hb0 := HB0.out
      have hb1 := HB1.out
      have hc0 := fun j hj => (HC0.out j hj).trans (pageL_get p j)
      have hc1 := fun j hj => (HC1.out j hj).trans (pageL_get p j)
      have hkd := HKD.out
      have hsz := HSZ.out
      refine wp_region_plan (by kernel_rfl) ?hok5 (by kernel_rfl) (vSameP w.heap.size (w.heap.size + 1) b off b' off' pn pc pc' k p) (fun _ _ W => Agrees All W0 W) ?h05 (fun i hi => ?steps5) ?hend5
      case hok5 => kernel_rfl
      case h05 => exact fun vals => by rw [hW0]; exact Agrees.refl _ _
      case steps5 =>
        generalize w.heap.size + 1 = db1 at *
        generalize w.heap.size = db0 at *
        generalize pn = n at *
        generalize pc = c at *
        generalize pc' = c' at *
        have hi' : i < 11 := hi
        match i, hi' with
          | 0, _ =>
            refine steps_of rfl ?_
            intro L aq wq hL hd st wi
            have o2 := st.outside (t := 2) rfl (v := .pointer (some ⟨db0, 0, none⟩)) rfl
            exact opTo_val (v := .pointer (some ⟨db0, 0, none⟩)) rfl (by simp [go_sem, Act.eval, o2]) ⟨(fun h => by cases h), rfl, wi⟩
          | 1, _ =>
            refine steps_of rfl ?_
            intro L aq wq hL hd st wi
            obtain ⟨u0, e0, V0⟩ := st.val 0 _ _ rfl rfl (hd ⟨0, .data⟩ (by simp) rfl)
            obtain rfl : .pointer (some ⟨db0, 0, none⟩) = u0 := V0.symm
            exact opTo_val (v := .slice (some ⟨b, off, none⟩) n c) rfl (ex_load1 (ty := 33) rfl onePagesL (eval_tmp e0) ((wi.cell (p := ⟨db0, 0, none⟩) hd0 trivial).trans hs0)) ⟨(fun h => by cases h), rfl, wi⟩
          | 2, _ =>
            refine steps_of rfl ?_
            intro L aq wq hL hd st wi
            have o5 := st.outside (t := 5) rfl (v := .int .i64 (k : Int)) rfl
            exact opTo_val (v := .int .i64 (k : Int)) rfl (ex_move (.inl rfl) (eval_tmp o5)) ⟨(fun h => by cases h), rfl, wi⟩
          | 3, _ =>
            refine steps_of rfl ?_
            intro L aq wq hL hd st wi
            obtain ⟨u1, e1, V1⟩ := st.val 1 _ _ rfl rfl (hd ⟨1, .data⟩ (by simp) rfl)
            obtain rfl : .slice (some ⟨b, off, none⟩) n c = u1 := V1.symm
            obtain ⟨u2, e2, V2⟩ := st.val 2 _ _ rfl rfl (hd ⟨2, .data⟩ (by simp) rfl)
            obtain rfl : .int .i64 (k : Int) = u2 := V2.symm
            exact opTo_val (v := .pointer (some ⟨b, off + k * 256, none⟩)) rfl (ex_idx rfl Try.underlying33 isAgg_page.2 b off n c k (eval_tmp e1) (eval_tmp e2) hlt) ⟨(fun h => by cases h), rfl, wi⟩
          | 4, _ =>
            refine steps_of rfl ?_
            intro L aq wq hL hd st wi
            obtain ⟨u3, e3, V3⟩ := st.val 3 _ _ rfl rfl (hd ⟨3, .data⟩ (by simp) rfl)
            obtain rfl : .pointer (some ⟨b, off + k * 256, none⟩) = u3 := V3.symm
            exact opTo_val (v := .agg (pageCells p)) rfl (ex_load rfl isAgg_page b (off + k * 256) (eval_tmp e3) (pageCells p) hsz (fun j hj => (wi.cell (p := ⟨b, off + k * 256 + j, none⟩) hb0 trivial).trans (hc0 j hj))) ⟨(fun h => by cases h), rfl, wi⟩
          | 5, _ =>
            refine steps_of rfl ?_
            intro L aq wq hL hd st wi
            have o3 := st.outside (t := 3) rfl (v := .pointer (some ⟨db1, 0, none⟩)) rfl
            exact opTo_val (v := .pointer (some ⟨db1, 0, none⟩)) rfl (by simp [go_sem, Act.eval, o3]) ⟨(fun h => by cases h), rfl, wi⟩
          | 6, _ =>
            refine steps_of rfl ?_
            intro L aq wq hL hd st wi
            obtain ⟨u5, e5, V5⟩ := st.val 5 _ _ rfl rfl (hd ⟨5, .data⟩ (by simp) rfl)
            obtain rfl : .pointer (some ⟨db1, 0, none⟩) = u5 := V5.symm
            exact opTo_val (v := .slice (some ⟨b', off', none⟩) n c') rfl (ex_load1 (ty := 33) rfl onePagesL (eval_tmp e5) ((wi.cell (p := ⟨db1, 0, none⟩) hd1 trivial).trans hs1)) ⟨(fun h => by cases h), rfl, wi⟩
          | 7, _ =>
            refine steps_of rfl ?_
            intro L aq wq hL hd st wi
            have o5 := st.outside (t := 5) rfl (v := .int .i64 (k : Int)) rfl
            exact opTo_val (v := .int .i64 (k : Int)) rfl (ex_move (.inl rfl) (eval_tmp o5)) ⟨(fun h => by cases h), rfl, wi⟩
          | 8, _ =>
            refine steps_of rfl ?_
            intro L aq wq hL hd st wi
            obtain ⟨u6, e6, V6⟩ := st.val 6 _ _ rfl rfl (hd ⟨6, .data⟩ (by simp) rfl)
            obtain rfl : .slice (some ⟨b', off', none⟩) n c' = u6 := V6.symm
            obtain ⟨u7, e7, V7⟩ := st.val 7 _ _ rfl rfl (hd ⟨7, .data⟩ (by simp) rfl)
            obtain rfl : .int .i64 (k : Int) = u7 := V7.symm
            exact opTo_val (v := .pointer (some ⟨b', off' + k * 256, none⟩)) rfl (ex_idx rfl Try.underlying33 isAgg_page.2 b' off' n c' k (eval_tmp e6) (eval_tmp e7) hlt) ⟨(fun h => by cases h), rfl, wi⟩
          | 9, _ =>
            refine steps_of rfl ?_
            intro L aq wq hL hd st wi
            obtain ⟨u8, e8, V8⟩ := st.val 8 _ _ rfl rfl (hd ⟨8, .data⟩ (by simp) rfl)
            obtain rfl : .pointer (some ⟨b', off' + k * 256, none⟩) = u8 := V8.symm
            exact opTo_val (v := .agg (pageCells p)) rfl (ex_load rfl isAgg_page b' (off' + k * 256) (eval_tmp e8) (pageCells p) hsz (fun j hj => (wi.cell (p := ⟨b', off' + k * 256 + j, none⟩) hb1 trivial).trans (hc1 j hj))) ⟨(fun h => by cases h), rfl, wi⟩
          | 10, _ =>
            refine steps_of rfl ?_
            intro L aq wq hL hd st wi
            obtain ⟨u4, e4, V4⟩ := st.val 4 _ _ rfl rfl (hd ⟨4, .data⟩ (by simp) rfl)
            obtain rfl : .agg (pageCells p) = u4 := V4.symm
            obtain ⟨u9, e9, V9⟩ := st.val 9 _ _ rfl rfl (hd ⟨9, .data⟩ (by simp) rfl)
            obtain rfl : .agg (pageCells p) = u9 := V9.symm
            refine opTo_neq keyable_page hkd hkd rfl rfl (eval_tmp e4) (eval_tmp e9) (fun r hr => ⟨(fun h => by cases h), ?_, wi⟩)
            obtain rfl := hr.2 rfl
            rfl
          | (i + 11), h => omega
      case hend5 =>
        intro vals w' hV hW
        have x10 : vals 10 = .bool false := hV 10 _ _ rfl rfl
        simp only [putAll, Act.put, List.setIfInBounds_toArray, List.set_cons_succ, List.set_cons_zero, x10]
        have HAW := Lib.hid (HAG0.out.trans hW)
        clear hV hW x10 hd0 hd1 hs0 hs1 hb0 hb1 hc0 hc1 hkd hsz hW0 HS0 HS1 HD0 HD1 HC0 HC1 HB0 HB1 HKD HSZ
        go_wp2_with fail
        exact ⟨⟨k + 1, by omega, by simp, HAW⟩, by simp [intOf]; omega⟩
    · obtain rfl : k = pn := by omega
      have HAG := HW
      clear HW
      go_wp2_with fail
      clear c0
      go_loopw [6] (fun ii wr => ∃ k : Nat, k ≤ cn ∧ ii = .int .i64 k ∧ RowKit.Hid (Agrees All w2 wr)) (fun ii _ => cn - (intOf ii).toNat)
      case atStart => exact ⟨0, by omega, rfl, Lib.hid HAG.out⟩
      case round =>
        obtain ⟨k, hk, rfl, HW⟩ := hrel
        have c0 : wr.cell? ⟨w.heap.size, 1, none⟩ = some (.slice ca cn cc) := by rw [cell_of_row _ _ _ _ _ _ ((HW.out.block _ (Array.getElem?_eq_some_iff.1 HR0.out).1 trivial).trans HR0.out)]; rfl
        by_cases hlt : k < cn
        · obtain ⟨x, hx⟩ : ∃ x, d.cache[k]? = some x := ⟨_, List.getElem?_eq_getElem (by rw [HCN.out]; exact hlt)⟩
          obtain ⟨W0, hW0⟩ : ∃ W0, wr.drew = W0 := ⟨_, rfl⟩
          have HAG0 : RowKit.Hid (Agrees All w2 W0) := by rw [← hW0]; exact Lib.hid HW.out.drew
          have HAGw := Lib.hid (HA2.out.trans HAG0.out)
          have HM := Lib.hid (List.mem_of_getElem? hx)
          obtain ⟨b, off, rfl, _, hb0, hc0⟩ := CellsAt.elem (f := wrL) (HV.out.cache.agrees HAGw.out fun _ h => h) (fun y hy => by rw [wrL_length, (HV.out.ok.wr y hy).2]) (by omega) hx
          obtain ⟨b', off', rfl, _, hb1, hc1⟩ := CellsAt.elem (f := wrL) (HV'.out.cache.agrees HAGw.out fun _ h => h) (fun y hy => by rw [wrL_length, (HV.out.ok.wr y hy).2]) (by omega) hx
          have HS0 : RowKit.Hid (W0.cell? ⟨w.heap.size, 1, none⟩ = some (.slice (some ⟨b, off, none⟩) cn cc)) := by rw [cell_of_row _ _ _ _ _ _ ((HAG0.out.block _ (Array.getElem?_eq_some_iff.1 HR0.out).1 trivial).trans HR0.out)]; exact Lib.hid rfl
          have HS1 : RowKit.Hid (W0.cell? ⟨w.heap.size + 1, 1, none⟩ = some (.slice (some ⟨b', off', none⟩) cn cc')) := by rw [cell_of_row _ _ _ _ _ _ ((HAG0.out.block _ (Array.getElem?_eq_some_iff.1 HR1.out).1 trivial).trans HR1.out)]; exact Lib.hid rfl
          have HD0 := Lib.hid (Nat.lt_of_lt_of_le (Array.getElem?_eq_some_iff.1 HR0.out).1 HAG0.out.size)
          have HD1 := Lib.hid (Nat.lt_of_lt_of_le (Array.getElem?_eq_some_iff.1 HR1.out).1 HAG0.out.size)
          have HC0 := Lib.hid hc0
          have HC1 := Lib.hid hc1
          have HB0 := Lib.hid hb0
          have HB1 := Lib.hid hb1
          have HKD := Lib.hid (keyed_write x (HV.out.ok.wr x HM.out).1 (HV.out.ok.wr x HM.out).2)
          have HSZ := Lib.hid ((by unfold wrCells; rw [List.size_toArray]; rw [wrL_length, (HV.out.ok.wr x HM.out).2] : (wrCells x).size = 257))
          clear hc0 hc1 hb0 hb1 hx
          go_wp2_with fail
          have hd0 := HD0.out
          have hd1 := HD1.out
          have hs0 := HS0.out
          have hs1 := HS1.out
          have hb0 := HB0.out
          have hb1 := HB1.out
          have hc0 := fun j hj => (HC0.out j hj).trans ((fun x j => (wrCells_get x j).symm) x j)
          have hc1 := fun j hj => (HC1.out j hj).trans ((fun x j => (wrCells_get x j).symm) x j)
          have hkd := HKD.out
          have hsz := HSZ.out
          refine wp_region_plan (by kernel_rfl) ?hok6 (by kernel_rfl) (vSameC w.heap.size (w.heap.size + 1) b off b' off' cn cc cc' k x) (fun _ _ W => Agrees All W0 W) ?h06 (fun i hi => ?steps6) ?hend6
          case hok6 => kernel_rfl
          case h06 => exact fun vals => by rw [hW0]; exact Agrees.refl _ _
          case steps6 =>
            generalize w.heap.size + 1 = db1 at *
            generalize w.heap.size = db0 at *
            generalize cn = n at *
            generalize cc = c at *
            generalize cc' = c' at *
            have hi' : i < 11 := hi
            match i, hi' with
              | 0, _ =>
                refine steps_of rfl ?_
                intro L aq wq hL hd st wi
                have o2 := st.outside (t := 2) rfl (v := .pointer (some ⟨db0, 0, none⟩)) rfl
                exact opTo_val (v := .pointer (some ⟨db0, 1, none⟩)) rfl (by simp [go_sem, Act.eval, o2]) ⟨(fun h => by cases h), rfl, wi⟩
              | 1, _ =>
                refine steps_of rfl ?_
                intro L aq wq hL hd st wi
                obtain ⟨u0, e0, V0⟩ := st.val 0 _ _ rfl rfl (hd ⟨0, .data⟩ (by simp) rfl)
                obtain rfl : .pointer (some ⟨db0, 1, none⟩) = u0 := V0.symm
                exact opTo_val (v := .slice (some ⟨b, off, none⟩) n c) rfl (ex_load1 (ty := 34) rfl oneWritesL (eval_tmp e0) ((wi.cell (p := ⟨db0, 1, none⟩) hd0 trivial).trans hs0)) ⟨(fun h => by cases h), rfl, wi⟩
              | 2, _ =>
                refine steps_of rfl ?_
                intro L aq wq hL hd st wi
                have o6 := st.outside (t := 6) rfl (v := .int .i64 (k : Int)) rfl
                exact opTo_val (v := .int .i64 (k : Int)) rfl (ex_move (.inl rfl) (eval_tmp o6)) ⟨(fun h => by cases h), rfl, wi⟩
              | 3, _ =>
                refine steps_of rfl ?_
                intro L aq wq hL hd st wi
                obtain ⟨u1, e1, V1⟩ := st.val 1 _ _ rfl rfl (hd ⟨1, .data⟩ (by simp) rfl)
                obtain rfl : .slice (some ⟨b, off, none⟩) n c = u1 := V1.symm
                obtain ⟨u2, e2, V2⟩ := st.val 2 _ _ rfl rfl (hd ⟨2, .data⟩ (by simp) rfl)
                obtain rfl : .int .i64 (k : Int) = u2 := V2.symm
                exact opTo_val (v := .pointer (some ⟨b, off + k * 257, none⟩)) rfl (ex_idx rfl Try.underlying34 isAgg_write.2 b off n c k (eval_tmp e1) (eval_tmp e2) hlt) ⟨(fun h => by cases h), rfl, wi⟩
              | 4, _ =>
                refine steps_of rfl ?_
                intro L aq wq hL hd st wi
                obtain ⟨u3, e3, V3⟩ := st.val 3 _ _ rfl rfl (hd ⟨3, .data⟩ (by simp) rfl)
                obtain rfl : .pointer (some ⟨b, off + k * 257, none⟩) = u3 := V3.symm
                exact opTo_val (v := .agg (wrCells x)) rfl (ex_load rfl isAgg_write b (off + k * 257) (eval_tmp e3) (wrCells x) hsz (fun j hj => (wi.cell (p := ⟨b, off + k * 257 + j, none⟩) hb0 trivial).trans (hc0 j hj))) ⟨(fun h => by cases h), rfl, wi⟩
              | 5, _ =>
                refine steps_of rfl ?_
                intro L aq wq hL hd st wi
                have o3 := st.outside (t := 3) rfl (v := .pointer (some ⟨db1, 0, none⟩)) rfl
                exact opTo_val (v := .pointer (some ⟨db1, 1, none⟩)) rfl (by simp [go_sem, Act.eval, o3]) ⟨(fun h => by cases h), rfl, wi⟩
              | 6, _ =>
                refine steps_of rfl ?_
                intro L aq wq hL hd st wi
                obtain ⟨u5, e5, V5⟩ := st.val 5 _ _ rfl rfl (hd ⟨5, .data⟩ (by simp) rfl)
                obtain rfl : .pointer (some ⟨db1, 1, none⟩) = u5 := V5.symm
                exact opTo_val (v := .slice (some ⟨b', off', none⟩) n c') rfl (ex_load1 (ty := 34) rfl oneWritesL (eval_tmp e5) ((wi.cell (p := ⟨db1, 1, none⟩) hd1 trivial).trans hs1)) ⟨(fun h => by cases h), rfl, wi⟩
              | 7, _ =>
                refine steps_of rfl ?_
                intro L aq wq hL hd st wi
                have o6 := st.outside (t := 6) rfl (v := .int .i64 (k : Int)) rfl
                exact opTo_val (v := .int .i64 (k : Int)) rfl (ex_move (.inl rfl) (eval_tmp o6)) ⟨(fun h => by cases h), rfl, wi⟩
              | 8, _ =>
                refine steps_of rfl ?_
                intro L aq wq hL hd st wi
                obtain ⟨u6, e6, V6⟩ := st.val 6 _ _ rfl rfl (hd ⟨6, .data⟩ (by simp) rfl)
                obtain rfl : .slice (some ⟨b', off', none⟩) n c' = u6 := V6.symm
                obtain ⟨u7, e7, V7⟩ := st.val 7 _ _ rfl rfl (hd ⟨7, .data⟩ (by simp) rfl)
                obtain rfl : .int .i64 (k : Int) = u7 := V7.symm
                exact opTo_val (v := .pointer (some ⟨b', off' + k * 257, none⟩)) rfl (ex_idx rfl Try.underlying34 isAgg_write.2 b' off' n c' k (eval_tmp e6) (eval_tmp e7) hlt) ⟨(fun h => by cases h), rfl, wi⟩
              | 9, _ =>
                refine steps_of rfl ?_
                intro L aq wq hL hd st wi
                obtain ⟨u8, e8, V8⟩ := st.val 8 _ _ rfl rfl (hd ⟨8, .data⟩ (by simp) rfl)
                obtain rfl : .pointer (some ⟨b', off' + k * 257, none⟩) = u8 := V8.symm
                exact opTo_val (v := .agg (wrCells x)) rfl (ex_load rfl isAgg_write b' (off' + k * 257) (eval_tmp e8) (wrCells x) hsz (fun j hj => (wi.cell (p := ⟨b', off' + k * 257 + j, none⟩) hb1 trivial).trans (hc1 j hj))) ⟨(fun h => by cases h), rfl, wi⟩
              | 10, _ =>
                refine steps_of rfl ?_
                intro L aq wq hL hd st wi
                obtain ⟨u4, e4, V4⟩ := st.val 4 _ _ rfl rfl (hd ⟨4, .data⟩ (by simp) rfl)
                obtain rfl : .agg (wrCells x) = u4 := V4.symm
                obtain ⟨u9, e9, V9⟩ := st.val 9 _ _ rfl rfl (hd ⟨9, .data⟩ (by simp) rfl)
                obtain rfl : .agg (wrCells x) = u9 := V9.symm
                refine opTo_neq keyable_write hkd hkd rfl rfl (eval_tmp e4) (eval_tmp e9) (fun r hr => ⟨(fun h => by cases h), ?_, wi⟩)
                obtain rfl := hr.2 rfl
                rfl
              | (i + 11), h => omega
          case hend6 =>
            intro vals w' hV hW
            have x10 : vals 10 = .bool false := hV 10 _ _ rfl rfl
            simp only [putAll, Act.put, List.setIfInBounds_toArray, List.set_cons_succ, List.set_cons_zero, x10]
            have HAW := Lib.hid (HAG0.out.trans hW)
            clear hV hW x10 hd0 hd1 hs0 hs1 hb0 hb1 hc0 hc1 hkd hsz hW0 HS0 HS1 HD0 HD1 HC0 HC1 HB0 HB1 HKD HSZ
            go_wp2_with fail
            exact ⟨⟨k + 1, by omega, by simp, HAW⟩, by simp [intOf]; omega⟩
        · obtain rfl : k = cn := by omega
          have HF := Lib.hid (HA2.out.trans HW.out)
          clear HW
          go_wp2_with fail
          go_ret
          exact ⟨rfl, HF.out⟩
end Suture
/-
  SAME PAIRS: sutureref10.Same of two pairs that read alike.
  Conditions: none beyond the pairs' own reading.
-/
namespace Suture
open Go Go.RowKit Go.Proofs
attribute [local go_sem] Oper.semAt_some

set_option maxHeartbeats 8000000 in
set_option maxRecDepth 100000 in
theorem same_calls (v v' : PV) (P : Pair) (w : World) (hv : PairAt All w v P) (hv' : PairAt All w v' P) :
    Calls Try.prog 34 #[.agg v.cells, .agg v'.cells] w fun e w' => e = .returned (.bool true) ∧ Agrees All w w' := by
  obtain ⟨w1, hw1⟩ : ∃ w1, w.alloc (.cells v.cells 40) = w1 := ⟨_, rfl⟩
  obtain ⟨w2, hw2⟩ : ∃ w2, w1.alloc (.cells v'.cells 40) = w2 := ⟨_, rfl⟩
  have hs1 : w1.heap.size = w.heap.size + 1 := by rw [← hw1]; simp
  have HA2 := Lib.hid (show Agrees All w w2 by rw [← hw2, ← hw1]; exact ((Agrees.refl _ w).alloc _).alloc _)
  have HR0 := Lib.hid (show w2.heap[w.heap.size]? = some (.cells v.cells 40 (0, 0)) by rw [← hw2, ← hw1]; exact row_old (row_new _ rfl))
  have HR1 := Lib.hid (show w2.heap[w.heap.size + 1]? = some (.cells v'.cells 40 (0, 0)) by rw [← hw2]; exact row_new _ hs1)
  have hfu : v'.fuse = v.fuse := hv'.fuse.symm.trans hv.fuse
  have hdn : v'.down = v.down := hv'.down.symm.trans hv.down
  have c8 : w2.cell? ⟨w.heap.size, 8, none⟩ = some (.int .i64 v.fuse) := by rw [cell_of_row _ _ _ _ _ _ HR0.out]; rfl
  have c9 : w2.cell? ⟨w.heap.size, 9, none⟩ = some (.bool v.down) := by rw [cell_of_row _ _ _ _ _ _ HR0.out]; rfl
  have e8 : w2.cell? ⟨w.heap.size + 1, 8, none⟩ = some (.int .i64 v.fuse) := by rw [cell_of_row _ _ _ _ _ _ HR1.out, ← hfu]; rfl
  have e9 : w2.cell? ⟨w.heap.size + 1, 9, none⟩ = some (.bool v.down) := by rw [cell_of_row _ _ _ _ _ _ HR1.out, ← hdn]; rfl
  have HV := Lib.hid hv
  have HV' := Lib.hid hv'
  have HS0 := Lib.hid (dsame_calls v.d0 v'.d0 P.d0 w2 (hv.d0.agrees HA2.out fun _ h => h) (hv'.d0.agrees HA2.out fun _ h => h))
  clear hv hv' hfu hdn
  go_enter Try.func34, Try.ntmps34
  go_wp2_with (first
    | (refine wpList_val rfl (ex_load (ty := 37) rfl isAgg_disk w.heap.size (0 * 4) rfl v.d0.cells rfl (v.loadDisk HR0.out 0 (by omega))) ?_)
    | (refine wpList_val rfl (ex_load (ty := 37) rfl isAgg_disk (w.heap.size + 1) (0 * 4) rfl v'.d0.cells rfl (v'.loadDisk HR1.out 0 (by omega))) ?_))
  refine HS0.out.mono ?_
  rintro e w3 ⟨rfl, hag⟩
  have HA3 := Lib.hid (HA2.out.trans hag)
  have HQ0 := Lib.hid ((hag.block _ (Array.getElem?_eq_some_iff.1 HR0.out).1 trivial).trans HR0.out)
  have HQ1 := Lib.hid ((hag.block _ (Array.getElem?_eq_some_iff.1 HR1.out).1 trivial).trans HR1.out)
  have HS1 := Lib.hid (dsame_calls v.d1 v'.d1 P.d1 w3 (HV.out.d1.agrees HA3.out fun _ h => h) (HV'.out.d1.agrees HA3.out fun _ h => h))
  clear hag HS0 c8 c9 e8 e9 hw1 hw2 hs1
  go_wp2_with (first
    | (refine wpList_val rfl (ex_load (ty := 37) rfl isAgg_disk w.heap.size (1 * 4) rfl v.d1.cells rfl (v.loadDisk HQ0.out 1 (by omega))) ?_)
    | (refine wpList_val rfl (ex_load (ty := 37) rfl isAgg_disk (w.heap.size + 1) (1 * 4) rfl v'.d1.cells rfl (v'.loadDisk HQ1.out 1 (by omega))) ?_))
  refine HS1.out.mono ?_
  rintro e w4 ⟨rfl, hag⟩
  have HA4 := Lib.hid (HA3.out.trans hag)
  clear hag
  go_wp2_with fail
  go_ret
  exact ⟨rfl, HA4.out⟩
end Suture
/-
  WHAT A SCAN WRITES, in plain Lean.
  Conditions: none.
-/
namespace Suture
open Go Go.RowKit Go.Proofs

/-- a disk behind writes of pages that fit a pointer -/
structure DiskW (x : Ptr) (d o : Disk) : Prop where
  pages : o.pages = d.pages
  bad : o.bad = d.bad
  off : o.off = d.off
  cache : ∃ l : List (Int × List (BitVec 8)), o.cache = d.cache ++ l ∧ ∀ y ∈ l, x.fits y.2 = true
theorem DiskW.refl (x : Ptr) (d : Disk) : DiskW x d d := ⟨rfl, rfl, rfl, [], by simp, fun y h => by simp at h⟩
theorem DiskW.trans {x : Ptr} {a b c : Disk} (h : DiskW x a b) (g : DiskW x b c) : DiskW x a c := by
  obtain ⟨l, hl, hf⟩ := h.cache
  obtain ⟨m, hm, gf⟩ := g.cache
  refine ⟨g.pages.trans h.pages, g.bad.trans h.bad, g.off.trans h.off, l ++ m, by rw [hm, hl, List.append_assoc], fun y hy => ?_⟩
  rcases List.mem_append.1 hy with e | e
  · exact hf y e
  · exact gf y e
theorem DiskW.put {x : Ptr} (d : Disk) (a : Int) {p : List (BitVec 8)} (h : x.fits p = true) : DiskW x d (d.put a p) :=
  ⟨rfl, rfl, rfl, [(a, p)], rfl, fun y hy => by rw [List.mem_singleton.1 hy]; exact h⟩

/-- a pair behind at most n writes, the last error e -/
structure PairW (x : Ptr) (n : Nat) (P O : Pair) (e : Int) : Prop where
  d0 : DiskW x P.d0 O.d0
  d1 : DiskW x P.d1 O.d1
  fuse : 0 ≤ P.fuse → 0 ≤ O.fuse ∧ O.fuse ≤ P.fuse ∧ P.fuse - O.fuse ≤ n
  none : P.fuse < 0 → O.fuse = P.fuse ∧ O.down = false
  down : O.down = (e == 100)

theorem write_codes (d : Disk) (a : Int) : d.writeE a ≠ 100 := by
  unfold Disk.writeE Disk.asked
  repeat' split
  all_goals omega
theorem mend_writes {x : Ptr} {pg : List (BitVec 8)} (hp : x.fits pg = true) : ∀ (bs : List (Int × Int)) (P : Pair) (m : Int), P.down = false → PairW x bs.length P (mendAll pg bs P m).1 (mendAll pg bs P m).2.2
  | [], P, m, hd => ⟨DiskW.refl _ _, DiskW.refl _ _, fun h => ⟨h, Int.le_refl _, by simp [mendAll]⟩, fun _ => ⟨rfl, hd⟩, by simp [mendAll, hd]⟩
  | b :: l, P, m, hd => by
    rw [mendAll]
    have hbn : P.burns = !decide (P.fuse = 0) := by
      unfold Pair.burns burnF
      rw [hd]
      by_cases h0 : P.fuse = 0
      · simp [h0]
      · by_cases h1 : 0 < P.fuse <;> simp [h0, h1]
    have hbf : P.burn.fuse = if 0 < P.fuse then P.fuse - 1 else P.fuse := by
      unfold Pair.burn burnF
      rw [hd]
      by_cases h0 : P.fuse = 0
      · simp [h0]
      · by_cases h1 : 0 < P.fuse <;> simp [h0, h1]
    have hbd : P.burn.down = decide (P.fuse = 0) := by
      unfold Pair.burn burnF
      rw [hd]
      by_cases h0 : P.fuse = 0
      · simp [h0]
      · by_cases h1 : 0 < P.fuse <;> simp [h0, h1]
    by_cases h0 : P.fuse = 0
    · have he : P.putE b.1.toNat b.2 = 100 := by
        unfold Pair.putE
        rw [hbn]; simp [h0]
      have hput : P.put b.1.toNat b.2 pg = P.burn := by
        unfold Pair.put
        rw [he, if_neg (by decide)]
      rw [he, if_neg (by decide), hput]
      exact ⟨DiskW.refl _ _, DiskW.refl _ _, fun h => by dsimp only; rw [hbf]; rw [if_neg (by omega)]; simp only [List.length_cons]; omega, fun h => by omega, by dsimp only; rw [hbd]; simp [h0]⟩
    · have hb2 : P.burn.down = false := by rw [hbd]; simp [h0]
      have hE : P.putE b.1.toNat b.2 = (P.disk b.1.toNat).writeE b.2 := by
        unfold Pair.putE
        rw [hbn]; simp [h0]
      have hne : P.putE b.1.toNat b.2 ≠ 100 := by rw [hE]; exact write_codes _ _
      by_cases he : P.putE b.1.toNat b.2 = 0
      · rw [if_pos he]
        have hput : P.put b.1.toNat b.2 pg = P.burn.set b.1.toNat ((P.disk b.1.toNat).put b.2 pg) := by
          unfold Pair.put
          rw [if_pos he]
        have hf2 : (P.put b.1.toNat b.2 pg).fuse = P.burn.fuse := by rw [hput]; unfold Pair.set; split <;> rfl
        have hd2 : (P.put b.1.toNat b.2 pg).down = P.burn.down := by rw [hput]; unfold Pair.set; split <;> rfl
        have w0 : DiskW x P.d0 (P.put b.1.toNat b.2 pg).d0 := by
          rw [hput]; unfold Pair.set Pair.disk
          split
          · exact DiskW.put _ _ hp
          · exact DiskW.refl _ _
        have w1 : DiskW x P.d1 (P.put b.1.toNat b.2 pg).d1 := by
          rw [hput]; unfold Pair.set Pair.disk
          split
          · exact DiskW.refl _ _
          · exact DiskW.put _ _ hp
        have ih := mend_writes hp l (P.put b.1.toNat b.2 pg) (m + 1) (hd2.trans hb2)
        refine ⟨w0.trans ih.d0, w1.trans ih.d1, fun h => ?_, fun h => ?_, ih.down⟩
        · have hp1 : 0 < P.fuse := by omega
          rw [if_pos hp1] at hbf
          have := ih.fuse (by rw [hf2, hbf]; omega)
          rw [hf2, hbf] at this
          rw [List.length_cons]
          push_cast
          omega
        · rw [if_neg (by omega)] at hbf
          have := ih.none (by rw [hf2, hbf]; exact h)
          rw [hf2, hbf] at this
          exact this
      · rw [if_neg he]
        have hput : P.put b.1.toNat b.2 pg = P.burn := by
          unfold Pair.put
          rw [if_neg he]
        rw [hput]
        refine ⟨DiskW.refl _ _, DiskW.refl _ _, fun h => ?_, fun h => ?_, ?_⟩
        · have hp1 : 0 < P.fuse := by omega
          dsimp only
          rw [hbf, if_pos hp1, List.length_cons]
          push_cast
          omega
        · dsimp only
          rw [hbf, if_neg (by omega)]
          exact ⟨rfl, hb2⟩
        · dsimp only
          rw [hb2]
          simp [hne]

theorem PairW.self (x : Ptr) (n : Nat) {P : Pair} {e : Int} (hd : P.down = false) (he : e ≠ 100) : PairW x n P P e :=
  ⟨DiskW.refl _ _, DiskW.refl _ _, fun h => ⟨h, Int.le_refl _, by omega⟩, fun _ => ⟨rfl, hd⟩, by rw [hd]; simp [he]⟩
theorem scan_down {P : Pair} {x : Ptr} (h : P.down = true) : (P.look x true).2.2.2 = 100 ∧ (P.look x true).2.1 = P := by
  have ha : P.asked x = 100 := by unfold Pair.asked; rw [if_pos h]
  unfold Pair.look
  rw [if_pos (by rw [ha]; decide)]
  exact ⟨ha, rfl⟩
/-- what a scan writes; t.Bad -/
theorem scan_writes {P : Pair} {x : Ptr} (h : P.down = false) : ∃ n : Nat, (P.look x true).2.2.1.b = n ∧ n ≤ 4 ∧ PairW x n P (P.look x true).2.1 (P.look x true).2.2.2 := by
  by_cases ha : P.asked x = 0
  · have hn : (P.bad x).length ≤ 4 := by
      unfold Pair.bad
      split
      · unfold Pair.bads Pair.found
        have h1 := List.length_filter_le (fun c => !P.isRight x c) (x.copies.filter P.lives)
        have h2 := List.length_filter_le P.lives x.copies
        have h3 : x.copies.length ≤ 4 := by unfold Ptr.copies; split <;> simp
        omega
      · simp
    rw [look_true ha]
    cases hs : (P.found x).any (P.isRight x) with
    | false =>
      unfold lookEnd
      rw [if_neg Bool.false_ne_true]
      exact ⟨_, rfl, hn, PairW.self _ _ h (by show (50 : Int) ≠ 100; decide)⟩
    | true =>
      have hw := mend_writes (pageIn_fits hs) (P.bad x) P 0 h
      unfold lookEnd
      rw [if_pos rfl]
      split
      · rename_i he
        rw [he] at hw
        exact ⟨_, rfl, hn, hw⟩
      · exact ⟨_, rfl, hn, hw⟩
  · unfold Pair.look
    rw [if_pos ha]
    refine ⟨0, rfl, by omega, PairW.self _ _ h ?_⟩
    show P.asked x ≠ 100
    unfold Pair.asked
    rw [h, if_neg Bool.false_ne_true]
    split
    · omega
    · split <;> omega
end Suture
/-
  suturelaw11.FetchWrites: the plans of its regions that draw their order.
  Conditions: none.
-/
namespace Suture
open Go Go.RowKit Go.Proofs
attribute [local go_sem] Oper.semAt_some

theorem PV.cellsDisk (v : PV) {W : World} {b : Nat} {t : TypeId} (h : W.heap[b]? = some (.cells v.cells t (0, 0))) (i : Nat) (hi : i < 2) {d : DV} (hd : v.disk i = d) :
    W.cell? ⟨b, i * 4, none⟩ = some (.slice d.pa d.pn d.pc) ∧ W.cell? ⟨b, i * 4 + 1, none⟩ = some (.slice d.ca d.cn d.cc) ∧ W.cell? ⟨b, i * 4 + 2, none⟩ = some (.slice d.ba d.bn d.bc) ∧ W.cell? ⟨b, i * 4 + 3, none⟩ = some (.bool d.off) := by
  subst hd
  exact ⟨v.loadDisk h i hi 0 (by omega), v.loadDisk h i hi 1 (by omega), v.loadDisk h i hi 2 (by omega), v.loadDisk h i hi 3 (by omega)⟩
def vFw12 (pb2 pb6 i pn cn cn' bn pc pc' cc' bc bc' : Nat) (pa pa' ca' ba ba' : Option Addr) (off : Bool) : Nat → Value → Prop
  | 0, val => val = .int .i64 (i : Int)
  | 1, val => val = .pointer (some ⟨pb6, 0, none⟩)
  | 2, val => val = .pointer (some ⟨pb6, i * 4, none⟩)
  | 3, val => val = .pointer (some ⟨pb6, i * 4, none⟩)
  | 4, val => val = .slice pa' pn pc'
  | 5, val => val = .int .i64 (pn : Int)
  | 6, val => val = .int .i64 (i : Int)
  | 7, val => val = .pointer (some ⟨pb2, 0, none⟩)
  | 8, val => val = .pointer (some ⟨pb2, i * 4, none⟩)
  | 9, val => val = .pointer (some ⟨pb2, i * 4, none⟩)
  | 10, val => val = .slice pa pn pc
  | 11, val => val = .int .i64 (pn : Int)
  | 12, val => val = .bool false
  | 13, val => val = .bool false
  | 14, val => val = .int .i64 (i : Int)
  | 15, val => val = .pointer (some ⟨pb6, 0, none⟩)
  | 16, val => val = .pointer (some ⟨pb6, i * 4, none⟩)
  | 17, val => val = .pointer (some ⟨pb6, i * 4 + 1, none⟩)
  | 18, val => val = .slice ca' cn' cc'
  | 19, val => val = .int .i64 (cn' : Int)
  | 20, val => val = .int .i64 (cn : Int)
  | 21, val => val = .bool false
  | 22, val => val = .bool false
  | 23, val => val = .bool false
  | 24, val => val = .int .i64 (i : Int)
  | 25, val => val = .pointer (some ⟨pb6, 0, none⟩)
  | 26, val => val = .pointer (some ⟨pb6, i * 4, none⟩)
  | 27, val => val = .pointer (some ⟨pb6, i * 4 + 2, none⟩)
  | 28, val => val = .slice ba' bn bc'
  | 29, val => val = .int .i64 (bn : Int)
  | 30, val => val = .int .i64 (i : Int)
  | 31, val => val = .pointer (some ⟨pb2, 0, none⟩)
  | 32, val => val = .pointer (some ⟨pb2, i * 4, none⟩)
  | 33, val => val = .pointer (some ⟨pb2, i * 4 + 2, none⟩)
  | 34, val => val = .slice ba bn bc
  | 35, val => val = .int .i64 (bn : Int)
  | 36, val => val = .bool false
  | 37, val => val = .bool false
  | 38, val => val = .bool false
  | 39, val => val = .int .i64 (i : Int)
  | 40, val => val = .pointer (some ⟨pb6, 0, none⟩)
  | 41, val => val = .pointer (some ⟨pb6, i * 4, none⟩)
  | 42, val => val = .pointer (some ⟨pb6, i * 4 + 3, none⟩)
  | 43, val => val = .bool off
  | 44, val => val = .int .i64 (i : Int)
  | 45, val => val = .pointer (some ⟨pb2, 0, none⟩)
  | 46, val => val = .pointer (some ⟨pb2, i * 4, none⟩)
  | 47, val => val = .pointer (some ⟨pb2, i * 4 + 3, none⟩)
  | 48, val => val = .bool off
  | 49, val => val = .bool false
  | 50, val => val = .bool false
  | _, _ => True
def vFw17 (pb2 pb6 i k pn pc pc' b off b' off' : Nat) (p : List (BitVec 8)) : Nat → Value → Prop
  | 0, val => val = .int .i64 (i : Int)
  | 1, val => val = .pointer (some ⟨pb6, 0, none⟩)
  | 2, val => val = .pointer (some ⟨pb6, i * 4, none⟩)
  | 3, val => val = .pointer (some ⟨pb6, i * 4, none⟩)
  | 4, val => val = .slice (some ⟨b', off', none⟩) pn pc'
  | 5, val => val = .int .i64 (k : Int)
  | 6, val => val = .pointer (some ⟨b', off' + k * 256, none⟩)
  | 7, val => val = .agg (pageCells p)
  | 8, val => val = .int .i64 (i : Int)
  | 9, val => val = .pointer (some ⟨pb2, 0, none⟩)
  | 10, val => val = .pointer (some ⟨pb2, i * 4, none⟩)
  | 11, val => val = .pointer (some ⟨pb2, i * 4, none⟩)
  | 12, val => val = .slice (some ⟨b, off, none⟩) pn pc
  | 13, val => val = .int .i64 (k : Int)
  | 14, val => val = .pointer (some ⟨b, off + k * 256, none⟩)
  | 15, val => val = .agg (pageCells p)
  | 16, val => val = .bool false
  | _, _ => True
def vFw23a (pb2 i k cn cc b off : Nat) (y : Int × List (BitVec 8)) : Nat → Value → Prop
  | 0, val => val = .int .i64 (k : Int)
  | 1, val => val = .int .i64 (cn : Int)
  | 2, val => val = .bool true
  | 3, val => val = .bool true
  | 4, val => val = .agg (wrCells y)
  | 5, val => val = .int .i64 (i : Int)
  | 6, val => val = .pointer (some ⟨pb2, 0, none⟩)
  | 7, val => val = .pointer (some ⟨pb2, i * 4, none⟩)
  | 8, val => val = .pointer (some ⟨pb2, i * 4 + 1, none⟩)
  | 9, val => val = .slice (some ⟨b, off, none⟩) cn cc
  | 10, val => val = .int .i64 (k : Int)
  | 11, val => val = .pointer (some ⟨b, off + k * 257, none⟩)
  | 12, val => val = .agg (wrCells y)
  | 13, val => val = .bool false
  | 14, val => val = .bool false
  | 15, val => val = .bool false
  | 16, val => val = .int .i64 (k : Int)
  | 17, val => val = .int .i64 (cn : Int)
  | 18, val => val = .bool false
  | 19, val => val = .bool false
  | 20, val => val = undef
  | 21, val => val = undef
  | 22, val => val = undef
  | 23, val => val = undef
  | 24, val => val = undef
  | 25, val => val = .bool false
  | 26, val => val = .bool false
  | _, _ => True
def vFw23b (cn k wb : Nat) (x : Ptr) (y : Int × List (BitVec 8)) : Nat → Value → Prop
  | 0, val => val = .int .i64 (k : Int)
  | 1, val => val = .int .i64 (cn : Int)
  | 2, val => val = .bool false
  | 3, val => val = .bool false
  | 4, val => val = undef
  | 5, val => val = undef
  | 6, val => val = undef
  | 7, val => val = undef
  | 8, val => val = undef
  | 9, val => val = undef
  | 10, val => val = undef
  | 11, val => val = undef
  | 12, val => val = undef
  | 13, val => val = undef
  | 14, val => val = .bool false
  | 15, val => val = .bool false
  | 16, val => val = .int .i64 (k : Int)
  | 17, val => val = .int .i64 (cn : Int)
  | 18, val => val = .bool true
  | 19, val => val = .bool true
  | 20, val => val = .agg x.cells
  | 21, val => val = .pointer (some ⟨wb, 1, none⟩)
  | 22, val => val = .agg (pageCells y.2)
  | 23, val => val = .bool true
  | 24, val => val = .bool false
  | 25, val => val = .bool false
  | 26, val => val = .bool false
  | _, _ => True
end Suture
