/-
  DISKS AND PAIRS TOO GREAT TO BE ASKED: sutureref04.Great, sutureref10.Great.
  Conditions: none beyond the disk's own reading.
-/
import Derived.Test.YtmkbchhmeaefeaaFB6
namespace Suture
open Go Go.RowKit Go.Proofs
attribute [local go_sem] Oper.semAt_some

def dips (l : List Int) (j : Nat) : Bool := decide (0 < j) && decide (l.getD j 0 ≤ l.getD (j - 1) 0)
/-- too great to be asked -/
def Disk.great (d : Disk) : Bool := (List.range d.bad.length).any (dips d.bad) || decide (256 < (d.pages.length : Int)) || decide (64 < (d.cache.length : Int)) || decide (64 < (d.bad.length : Int))
def Pair.great (P : Pair) : Bool := P.d0.great || P.d1.great

def vGreat (db b off n cap k : Nat) (x0 x1 : Int) : Nat → Value → Prop
  | 0, val => val = .pointer (some ⟨db, 2, none⟩)
  | 1, val => val = .slice (some ⟨b, off, none⟩) n cap
  | 2, val => val = .int .i64 ((k : Int) + 1)
  | 3, val => val = .int .i64 (k : Int)
  | 4, val => val = .pointer (some ⟨b, off + k * 1, none⟩)
  | 5, val => val = .int .i64 x0
  | 6, val => val = .pointer (some ⟨db, 2, none⟩)
  | 7, val => val = .slice (some ⟨b, off, none⟩) n cap
  | 8, val => val = .int .i64 ((k : Int) + 1)
  | 9, val => val = .pointer (some ⟨b, off + (k + 1) * 1, none⟩)
  | 10, val => val = .int .i64 x1
  | 11, val => val = .bool (decide (x1 ≤ x0))
  | _, _ => True

set_option maxHeartbeats 2000000 in
set_option maxRecDepth 100000 in
theorem dgreat_calls (v : DV) (d : Disk) (w : World) (hv : DiskAt All w v d) :
    Calls Try.prog 45 #[.agg v.cells] w fun e w' => e = .returned (.bool d.great) ∧ Agrees All w w' := by
  obtain ⟨pa, pn, pc, ca, cn, cc, ba, bn, bc, off0⟩ := v
  obtain ⟨W1, hW1⟩ : ∃ W1, w.alloc (.cells (DV.mk pa pn pc ca cn cc ba bn bc off0).cells 37) = W1 := ⟨_, rfl⟩
  have hA1 : Agrees All w W1 := by rw [← hW1]; exact (Agrees.refl _ w).alloc _
  have hr1 : W1.heap[w.heap.size]? = some (.cells (DV.mk pa pn pc ca cn cc ba bn bc off0).cells 37 (0, 0)) := by rw [← hW1]; exact World.alloc_heap_new w _
  have HV := Lib.hid hv
  have hmb := hv.bad.max.1
  have HPN := Lib.hid hv.pn
  have HCN := Lib.hid hv.cn
  have HBN := Lib.hid hv.bn
  have HA1 := Lib.hid hA1
  have HR1 := Lib.hid hr1
  clear hv hA1 hr1
  simp only at HPN HCN HBN hmb
  go_enter Try.func45, Try.ntmps45
  go_wp2_with fail
  go_loopw [3] (fun ii wr => ∃ k : Nat, (k < bn ∨ k = 0) ∧ ii = .int .i64 ((k : Int) + 1) ∧ RowKit.Hid ((List.range (k + 1)).any (dips d.bad) = false ∧ Agrees All W1 wr)) (fun ii _ => bn - (intOf ii).toNat)
  case atStart => exact ⟨0, .inr rfl, rfl, by simp [dips], Agrees.refl _ _⟩
  case round =>
    obtain ⟨k, hk, rfl, HW⟩ := hrel
    have hrr := (HW.out.2.block _ (Array.getElem?_eq_some_iff.1 HR1.out).1 trivial).trans HR1.out
    have c2 : wr.cell? ⟨w.heap.size, 2, none⟩ = some (.slice ba bn bc) := by rw [cell_of_row _ _ _ _ _ _ hrr]; rfl
    by_cases hlt : k + 1 < bn
    · obtain ⟨y0, hy0⟩ : ∃ x, d.bad[k]? = some x := ⟨_, List.getElem?_eq_getElem (by rw [HBN.out]; omega)⟩
      obtain ⟨y1, hy1⟩ : ∃ x, d.bad[k + 1]? = some x := ⟨_, List.getElem?_eq_getElem (by rw [HBN.out]; omega)⟩
      obtain ⟨W0, hW0⟩ : ∃ W0, wr.drew = W0 := ⟨_, rfl⟩
      have hag0 : Agrees All w W0 := by rw [← hW0]; exact (HA1.out.trans HW.out.2).drew
      obtain ⟨b, off, rfl, _, hbl, hc0⟩ := CellsAt.elem (f := intL) (HV.out.bad.agrees hag0 fun _ h => h) (fun y hy => rfl) (by omega) hy0
      obtain ⟨b', off', he, _, _, hc1⟩ := CellsAt.elem (f := intL) (HV.out.bad.agrees hag0 fun _ h => h) (fun y hy => rfl) (by omega) hy1
      cases he
      have hx0 : W0.cell? ⟨b, off + k * 1, none⟩ = some (.int .i64 y0) := hc0 0 (by omega)
      have hx1 : W0.cell? ⟨b, off + (k + 1) * 1, none⟩ = some (.int .i64 y1) := hc1 0 (by omega)
      have hdr : W0.heap[w.heap.size]? = some (.cells (DV.mk pa pn pc ca cn cc (some ⟨b, off, none⟩) bn bc off0).cells 37 (0, 0)) := by rw [← hW0]; exact hrr
      have HD : RowKit.Hid (dips d.bad (k + 1) = decide (y1 ≤ y0)) := by
        refine Lib.hid ?_
        unfold dips
        simp [List.getD_eq_getElem?_getD, hy0, hy1]
      have HRNG : RowKit.Hid ((List.range (k + 1 + 1)).any (dips d.bad) = ((List.range (k + 1)).any (dips d.bad) || dips d.bad (k + 1))) := by
        refine Lib.hid ?_
        rw [List.range_succ, List.any_append]; simp
      have HYB := Lib.hid hy1
      have HDR := Lib.hid hdr
      have HBL := Lib.hid hbl
      have HX0 := Lib.hid hx0
      have HX1 := Lib.hid hx1
      clear hc0 hc1 hrr hy0 hy1 hdr hbl hx0 hx1 hW1
      go_wp2_with fail
      have hwk0 : IntKind.i64.wrap (k : Int) = (k : Int) := by rw [IntKind.wrap_i64]; omega
      have hdr := HDR.out
      have hbl := HBL.out
      have hx0 := HX0.out
      have hx1 := HX1.out
      refine wp_region_plan (by kernel_rfl) ?hok (by kernel_rfl) (vGreat w.heap.size b off bn bc k y0 y1) (fun _ _ W => Agrees All W0 W) ?h0 (fun i hi => ?steps) ?hend
      case hok => kernel_rfl
      case h0 => exact fun vals => by rw [hW0]; exact Agrees.refl _ _
      case steps =>
        generalize w.heap.size = db at *
        generalize y0 = x0 at *
        generalize y1 = x1 at *
        generalize bn = n at *
        generalize bc = cap at *
        have hi' : i < 12 := hi
        match i, hi' with
        | 0, _ =>
          refine steps_of rfl ?_
          intro L aq wq hL hd st wi
          have o1 := st.outside (t := 1) rfl (v := .pointer (some ⟨db, 0, none⟩)) rfl
          exact opTo_val (v := .pointer (some ⟨db, 2, none⟩)) rfl (by simp [go_sem, Act.eval, o1]) ⟨(fun h => by cases h), rfl, wi⟩
        | 1, _ =>
          refine steps_of rfl ?_
          intro L aq wq hL hd st wi
          obtain ⟨u0, e0, V0⟩ := st.val 0 _ _ rfl rfl (hd ⟨0, .data⟩ (by simp) rfl)
          obtain rfl : .pointer (some ⟨db, 2, none⟩) = u0 := V0.symm
          exact opTo_val (v := .slice (some ⟨b, off, none⟩) n cap) rfl (ex_load1 (ty := 35) rfl oneIntsL (eval_tmp e0) (by rw [cell_of_row _ _ _ _ _ _ ((wi.block _ (Array.getElem?_eq_some_iff.1 hdr).1 trivial).trans hdr)]; rfl)) ⟨(fun h => by cases h), rfl, wi⟩
        | 2, _ =>
          refine steps_of rfl ?_
          intro L aq wq hL hd st wi
          have o3 := st.outside (t := 3) rfl (v := .int .i64 ((k : Int) + 1)) rfl
          exact opTo_val (v := .int .i64 ((k : Int) + 1)) rfl (ex_move (.inl rfl) (eval_tmp o3)) ⟨(fun h => by cases h), rfl, wi⟩
        | 3, _ =>
          refine steps_of rfl ?_
          intro L aq wq hL hd st wi
          obtain ⟨u2, e2, V2⟩ := st.val 2 _ _ rfl rfl (hd ⟨2, .data⟩ (by simp) rfl)
          obtain rfl : .int .i64 ((k : Int) + 1) = u2 := V2.symm
          exact opTo_val (v := .int .i64 (k : Int)) rfl (by simp [go_sem, Act.eval, e2, hwk0]) ⟨(fun h => by cases h), rfl, wi⟩
        | 4, _ =>
          refine steps_of rfl ?_
          intro L aq wq hL hd st wi
          obtain ⟨u1, e1, V1⟩ := st.val 1 _ _ rfl rfl (hd ⟨1, .data⟩ (by simp) rfl)
          obtain rfl : .slice (some ⟨b, off, none⟩) n cap = u1 := V1.symm
          obtain ⟨u3, e3, V3⟩ := st.val 3 _ _ rfl rfl (hd ⟨3, .data⟩ (by simp) rfl)
          obtain rfl : .int .i64 (k : Int) = u3 := V3.symm
          exact opTo_val (v := .pointer (some ⟨b, off + k * 1, none⟩)) rfl (ex_idx rfl Try.underlying35 oneInt.2 b off n cap k (eval_tmp e1) (eval_tmp e3) (by omega)) ⟨(fun h => by cases h), rfl, wi⟩
        | 5, _ =>
          refine steps_of rfl ?_
          intro L aq wq hL hd st wi
          obtain ⟨u4, e4, V4⟩ := st.val 4 _ _ rfl rfl (hd ⟨4, .data⟩ (by simp) rfl)
          obtain rfl : .pointer (some ⟨b, off + k * 1, none⟩) = u4 := V4.symm
          exact opTo_val (v := .int .i64 x0) rfl (ex_load1 (ty := 3) rfl oneInt (eval_tmp e4) ((wi.cell (p := ⟨b, off + k * 1, none⟩) hbl trivial).trans hx0)) ⟨(fun h => by cases h), rfl, wi⟩
        | 6, _ =>
          refine steps_of rfl ?_
          intro L aq wq hL hd st wi
          have o1 := st.outside (t := 1) rfl (v := .pointer (some ⟨db, 0, none⟩)) rfl
          exact opTo_val (v := .pointer (some ⟨db, 2, none⟩)) rfl (by simp [go_sem, Act.eval, o1]) ⟨(fun h => by cases h), rfl, wi⟩
        | 7, _ =>
          refine steps_of rfl ?_
          intro L aq wq hL hd st wi
          obtain ⟨u6, e6, V6⟩ := st.val 6 _ _ rfl rfl (hd ⟨6, .data⟩ (by simp) rfl)
          obtain rfl : .pointer (some ⟨db, 2, none⟩) = u6 := V6.symm
          exact opTo_val (v := .slice (some ⟨b, off, none⟩) n cap) rfl (ex_load1 (ty := 35) rfl oneIntsL (eval_tmp e6) (by rw [cell_of_row _ _ _ _ _ _ ((wi.block _ (Array.getElem?_eq_some_iff.1 hdr).1 trivial).trans hdr)]; rfl)) ⟨(fun h => by cases h), rfl, wi⟩
        | 8, _ =>
          refine steps_of rfl ?_
          intro L aq wq hL hd st wi
          have o3 := st.outside (t := 3) rfl (v := .int .i64 ((k : Int) + 1)) rfl
          exact opTo_val (v := .int .i64 ((k : Int) + 1)) rfl (ex_move (.inl rfl) (eval_tmp o3)) ⟨(fun h => by cases h), rfl, wi⟩
        | 9, _ =>
          refine steps_of rfl ?_
          intro L aq wq hL hd st wi
          obtain ⟨u7, e7, V7⟩ := st.val 7 _ _ rfl rfl (hd ⟨7, .data⟩ (by simp) rfl)
          obtain rfl : .slice (some ⟨b, off, none⟩) n cap = u7 := V7.symm
          obtain ⟨u8, e8, V8⟩ := st.val 8 _ _ rfl rfl (hd ⟨8, .data⟩ (by simp) rfl)
          obtain rfl : .int .i64 ((k : Int) + 1) = u8 := V8.symm
          exact opTo_val (v := .pointer (some ⟨b, off + (k + 1) * 1, none⟩)) rfl (ex_idx rfl Try.underlying35 oneInt.2 b off n cap (k + 1) (eval_tmp e7) (by rw [eval_tmp e8]; rfl) (by omega)) ⟨(fun h => by cases h), rfl, wi⟩
        | 10, _ =>
          refine steps_of rfl ?_
          intro L aq wq hL hd st wi
          obtain ⟨u9, e9, V9⟩ := st.val 9 _ _ rfl rfl (hd ⟨9, .data⟩ (by simp) rfl)
          obtain rfl : .pointer (some ⟨b, off + (k + 1) * 1, none⟩) = u9 := V9.symm
          exact opTo_val (v := .int .i64 x1) rfl (ex_load1 (ty := 3) rfl oneInt (eval_tmp e9) ((wi.cell (p := ⟨b, off + (k + 1) * 1, none⟩) hbl trivial).trans hx1)) ⟨(fun h => by cases h), rfl, wi⟩
        | 11, _ =>
          refine steps_of rfl ?_
          intro L aq wq hL hd st wi
          obtain ⟨u5, e5, V5⟩ := st.val 5 _ _ rfl rfl (hd ⟨5, .data⟩ (by simp) rfl)
          obtain rfl : .int .i64 x0 = u5 := V5.symm
          obtain ⟨u10, e10, V10⟩ := st.val 10 _ _ rfl rfl (hd ⟨10, .data⟩ (by simp) rfl)
          obtain rfl : .int .i64 x1 = u10 := V10.symm
          exact opTo_val (v := .bool (decide (x1 ≤ x0))) rfl (by simp [go_sem, Act.eval, e5, e10]) ⟨(fun h => by cases h), rfl, wi⟩
        | (i + 12), h => omega
      case hend =>
        intro vals w' hV hW
        have x11 : vals 11 = .bool (decide (y1 ≤ y0)) := hV 11 _ _ rfl rfl
        simp only [putAll, Act.put, List.setIfInBounds_toArray, List.set_cons_succ, List.set_cons_zero, x11]
        have HAW : RowKit.Hid (Agrees All wr w') := Lib.hid (by have := (Agrees.refl All wr).drew; rw [hW0] at this; exact this.trans hW)
        have hwk : IntKind.i64.wrap ((k : Int) + 1 + 1) = (k : Int) + 1 + 1 := by rw [IntKind.wrap_i64]; omega
        clear hV hW x11 hdr hbl hx0 hx1 HDR HBL HX0 HX1 hW0 c2 hag0
        by_cases hle : y1 ≤ y0
        · go_wp2_with fail
          go_ret
          refine ⟨?_, HA1.out.trans (HW.out.2.trans HAW.out)⟩
          have : (List.range d.bad.length).any (dips d.bad) = true := List.any_eq_true.2 ⟨k + 1, by rw [HBN.out]; exact List.mem_range.2 hlt, by rw [HD.out]; simpa using hle⟩
          unfold Disk.great
          rw [this]
          simp
        · go_wp2_with fail
          refine ⟨⟨k + 1, .inl hlt, by simp, Lib.hid ⟨?_, HW.out.2.trans HAW.out⟩⟩, by simp [intOf]; omega⟩
          rw [HRNG.out, HW.out.1, HD.out]
          simpa using hle
    · have HR2 := Lib.hid hrr
      clear hW1 c2
      have c0 : wr.cell? ⟨w.heap.size, 0, none⟩ = some (.slice pa pn pc) := by rw [cell_of_row _ _ _ _ _ _ hrr]; rfl
      have c1 : wr.cell? ⟨w.heap.size, 1, none⟩ = some (.slice ca cn cc) := by rw [cell_of_row _ _ _ _ _ _ hrr]; rfl
      have c2 : wr.cell? ⟨w.heap.size, 2, none⟩ = some (.slice ba bn bc) := by rw [cell_of_row _ _ _ _ _ _ hrr]; rfl
      have HG : RowKit.Hid (d.great = (decide (256 < (pn : Int)) || decide (64 < (cn : Int)) || decide (64 < (bn : Int)))) := by
        refine Lib.hid ?_
        unfold Disk.great
        rw [HPN.out, HCN.out, HBN.out]
        have : (List.range bn).any (dips d.bad) = false := by
          have h := HW.out.1
          rw [List.any_eq_false] at h ⊢
          exact fun j hj => h j (List.mem_range.2 (by have := List.mem_range.1 hj; omega))
        rw [this]; rfl
      clear hrr
      go_wp2_with fail
      all_goals
        go_ret
        refine ⟨?_, HA1.out.trans HW.out.2⟩
        rw [HG.out]
        congr 2
        all_goals first
          | (rw [Bool.eq_iff_iff]; simp; omega)
          | (rw [Bool.eq_iff_iff]; simp)
          | simp_all
end Suture
/-
  PAIRS TOO GREAT TO BE ASKED, disks and pairs made: sutureref10.Great, sutureref03.New, sutureref10.Make.
  Conditions: none beyond the pair's own reading.
-/
namespace Suture
open Go Go.RowKit Go.Proofs
attribute [local go_sem] Oper.semAt_some

theorem PV.loadDisk (v : PV) {W : World} {b : Nat} {t : TypeId} (h : W.heap[b]? = some (.cells v.cells t (0, 0))) (i : Nat) (hi : i < 2) : ∀ j, j < 4 → W.cell? ⟨b, i * 4 + j, none⟩ = (v.disk i).cells[j]? := by
  intro j hj
  rw [cell_of_row _ _ _ _ _ _ h]
  have h1 : i = 0 ∨ i = 1 := by omega
  have h2 : j = 0 ∨ j = 1 ∨ j = 2 ∨ j = 3 := by omega
  rcases h1 with rfl | rfl <;> rcases h2 with rfl | rfl | rfl | rfl <;> rfl

set_option maxHeartbeats 2000000 in
set_option maxRecDepth 100000 in
theorem great_calls (v : PV) (P : Pair) (w : World) (hv : PairAt All w v P) :
    Calls Try.prog 24 #[.agg v.cells] w fun e w' => e = .returned (.bool P.great) ∧ Agrees All w w' := by
  obtain ⟨W1, hW1⟩ : ∃ W1, w.alloc (.cells v.cells 40) = W1 := ⟨_, rfl⟩
  have hA1 : Agrees All w W1 := by rw [← hW1]; exact (Agrees.refl _ w).alloc _
  have hr1 : W1.heap[w.heap.size]? = some (.cells v.cells 40 (0, 0)) := by rw [← hW1]; exact World.alloc_heap_new w _
  have H0 := Lib.hid (v.loadDisk hr1 0 (by omega))
  have HA1 := Lib.hid hA1
  have HG0 := Lib.hid (dgreat_calls v.d0 P.d0 W1 (hv.d0.agrees hA1 fun _ h => h))
  have HV := Lib.hid hv
  have HR1 := Lib.hid hr1
  clear hA1 hr1 hv
  go_enter Try.func24, Try.ntmps24
  go_wp2_with (refine wpList_val rfl (ex_load (ty := 37) rfl isAgg_disk w.heap.size (0 * 4) rfl v.d0.cells rfl H0.out) ?_)
  refine HG0.out.mono ?_
  rintro e W2 ⟨rfl, hag⟩
  have hr2 := (hag.block _ (Array.getElem?_eq_some_iff.1 HR1.out).1 trivial).trans HR1.out
  have hA2 := HA1.out.trans hag
  have H1 := Lib.hid (v.loadDisk hr2 1 (by omega))
  have HG1 := Lib.hid (dgreat_calls v.d1 P.d1 W2 (HV.out.d1.agrees hA2 fun _ h => h))
  have HA2 := Lib.hid hA2
  have HE : RowKit.Hid (P.great = (P.d0.great || P.d1.great)) := Lib.hid rfl
  clear hag hr2 hA2 HG0 H0 hW1
  generalize P.d0.great = g0 at *
  cases g0
  · go_wp2_with (refine wpList_val rfl (ex_load (ty := 37) rfl isAgg_disk w.heap.size (1 * 4) rfl v.d1.cells rfl H1.out) ?_)
    refine HG1.out.mono ?_
    rintro e W3 ⟨rfl, hag⟩
    have HA3 := Lib.hid (HA2.out.trans hag)
    clear hag
    go_wp2_with fail
    go_ret
    exact ⟨by rw [HE.out]; rfl, HA3.out⟩
  · go_wp2_with fail
    go_ret
    exact ⟨by rw [HE.out]; rfl, HA2.out⟩

theorem flat_zeros : ∀ n : Nat, ((List.replicate n noPage).map pageL).flatten = List.replicate (n * 256) (B 0#8)
  | 0 => rfl
  | n + 1 => by
    rw [List.replicate_succ, List.map_cons, List.flatten_cons, flat_zeros n]
    have : pageL noPage = List.replicate 256 (B 0#8) := by unfold pageL noPage; rw [List.map_replicate]
    rw [this, List.replicate_append_replicate]
    congr 1; omega
/-- zeroed pages, made -/
theorem make_pages (n : Nat) (hn : n ≤ 256) : ∃ mc : Array Value, mc.size = n * 256 ∧ (∀ j, j < n * 256 → mc[j]? = some (B 0#8)) ∧
    ∀ W : World, (Instr.makeSlice 33 (.int .i64 (n : Int)) (.int .i64 (n : Int))).run Try.prog W = .ok (.slice (some ⟨W.heap.size, 0, none⟩) n n) (W.alloc (.cells mc 32)) := by
  obtain ⟨i0, hi0, hz0, hz1, hz2⟩ := info_parts infoPage
  refine ⟨madeCells noPageV.cells (n * 256), size_madeCells _ _, fun j hj => ?_, fun W => ?_⟩
  · have hs : noPageV.cells.size = 256 := noPageV_size
    unfold madeCells
    rw [Array.getElem?_map, Array.getElem?_eq_getElem (by simp; omega)]
    simp only [Array.getElem_range, Option.map_some, hs]
    have h2 : noPageV.cells = pageCells noPage := rfl
    have h3 := pageCells_get noPage (j % 256) (by rw [noPage_len]; omega)
    have h4 : noPage.getD (j % 256) 0 = 0#8 := by
      unfold noPage
      rw [List.getD_eq_getElem?_getD, List.getElem?_replicate, if_pos (by omega)]; rfl
    rw [h2, getElem!_def, h3, h4]
  · have h := run_makeSlice (P := Try.prog) W 33 32 i0 noPageV Try.underlying33 hi0 hz0 .i64 .i64 (n : Int) (n : Int) (by omega) (by omega) (by rw [hz1]; omega) (by rw [hz2]; omega) (by omega)
    simpa [hz1] using h
def fresh (n : Nat) : Disk := ⟨List.replicate n noPage, [], [], false⟩

set_option maxHeartbeats 2000000 in
set_option maxRecDepth 100000 in
theorem rnew_calls (w : World) :
    Calls Try.prog 37 #[.int .i64 32] w fun e w' => ∃ v : DV, e = .returned (.tuple #[.agg v.cells, .int .i64 0]) ∧ RowKit.Hid (DiskAt (fun b => w.heap.size ≤ b) w' v (fresh 32) ∧ Agrees All w w') := by
  obtain ⟨mc, hm0, hm1, hmk⟩ := make_pages 32 (by omega)
  have hmk2 : ∀ W : World, (Instr.makeSlice 33 (.int .i64 32) (.int .i64 32)).run Try.prog W = .ok (.slice (some ⟨W.heap.size, 0, none⟩) 32 32) (W.alloc (.cells mc 32)) := hmk
  have HM1 := Lib.hid hm1
  clear hm0 hm1 hmk
  have hf : RowKit.Hid (∀ W' : World, W'.heap[w.heap.size + 1]? = some (.cells mc 32 (0, 0)) → DiskAt (fun b => w.heap.size ≤ b) W' ⟨some ⟨w.heap.size + 1, 0, none⟩, 32, 32, none, 0, 0, none, 0, 0, false⟩ (fresh 32)) := by
    refine Lib.hid (fun W' h => ⟨⟨_, 32, rfl, ?_, ⟨(by decide : 32 ≤ 9223372036854775807), Nat.le_refl 32⟩, fun j u hu => ⟨w.heap.size + 1, 0, rfl, by omega, (Array.getElem?_eq_some_iff.1 h).1, ?_⟩⟩, by simp [fresh], ⟨_, 0, rfl, rfl, ⟨(by decide : 0 ≤ 9223372036854775807), Nat.le_refl 0⟩, fun j u hu => by simp [fresh] at hu⟩, rfl, ⟨_, 0, rfl, rfl, ⟨(by decide : 0 ≤ 9223372036854775807), Nat.le_refl 0⟩, fun j u hu => by simp [fresh] at hu⟩, rfl, rfl, ⟨fun p hp => ?_, fun x hx => by simp [fresh] at hx, fun z hz => by simp [fresh] at hz⟩⟩)
    · show (((List.replicate 32 noPage).map pageL).flatten).length = _
      rw [flat_zeros]; simp
    · have hu' : (List.replicate (32 * 256) (B 0#8))[j]? = some u := by rw [← flat_zeros]; exact hu
      have hj := (List.getElem?_eq_some_iff.1 hu').1
      rw [List.getElem?_replicate, if_pos (by simpa using hj)] at hu'
      rw [Nat.zero_add, cell_of_row _ _ _ _ _ _ h, HM1.out j (by simpa using hj), hu']
    · simp only [fresh] at hp
      rw [List.eq_of_mem_replicate hp]; exact noPage_len
  obtain ⟨W1, hW1⟩ : ∃ W1, w.alloc (.cells DV.zero.cells 37) = W1 := ⟨_, rfl⟩
  obtain ⟨W2, hW2⟩ : ∃ W2, W1.alloc (.cells mc 32) = W2 := ⟨_, rfl⟩
  have hs1 : W1.heap.size = w.heap.size + 1 := by rw [← hW1]; simp
  have HZ := Lib.hid (show W2.heap[w.heap.size]? = some (.cells DV.zero.cells 37 (0, 0)) by rw [← hW2, ← hW1]; exact row_old (row_new _ rfl))
  have HM := Lib.hid (show W2.heap[w.heap.size + 1]? = some (.cells mc 32 (0, 0)) by rw [← hW2]; exact row_new _ hs1)
  have HA := Lib.hid (show Agrees All w W2 by rw [← hW2, ← hW1]; exact ((Agrees.refl _ _).alloc _).alloc _)
  go_enter Try.func37, Try.ntmps37
  go_wp2_with (first
    | (refine wpList_val rfl (ex_alloc rfl (.agg DV.zero.cells) zero_disk) ?_; rw [show (Value.agg DV.zero.cells).cells = DV.zero.cells from rfl, hW1])
    | (refine wpList_unit rfl (ex_storeAll (ty := 37) rfl isAgg_disk.2 w.heap.size rfl (DV.mk (some ⟨w.heap.size + 1, 0, none⟩) 32 32 none 0 0 none 0 0 false).cells DV.zero.cells rfl rfl HZ.out rfl (DV.one _)) ?_))
  have hrow := setRow_heap W2 w.heap.size DV.zero.cells (DV.mk (some ⟨w.heap.size + 1, 0, none⟩) 32 32 none 0 0 none 0 0 false).cells _ _ HZ.out
  refine bodyPost_ret (results_a1t1' rfl _ (b := w.heap.size) rfl isAgg_disk (vs := (DV.mk (some ⟨w.heap.size + 1, 0, none⟩) 32 32 none 0 0 none 0 0 false).cells) rfl (DV.load _ hrow) rfl) rfl ⟨_, rfl, Lib.hid ⟨hf.out _ ?_, HA.out.setRow (.inr (Nat.le_refl _)) _⟩⟩
  rw [setRow_other _ _ _ _ (by omega)]
  exact HM.out
end Suture
/-
  A PAIR MADE: sutureref10.Make.
  Conditions: none.
-/
namespace Suture
open Go Go.RowKit Go.Proofs
attribute [local go_sem] Oper.semAt_some

def twoCells (v0 v1 : DV) : Array Value := #[.slice v0.pa v0.pn v0.pc, .slice v0.ca v0.cn v0.cc, .slice v0.ba v0.bn v0.bc, .bool v0.off, .slice v1.pa v1.pn v1.pc, .slice v1.ca v1.cn v1.cc, .slice v1.ba v1.bn v1.bc, .bool v1.off]
theorem run_build_disks (v0 v1 : DV) (w : World) : (Instr.build 38 #[(0, .agg v0.cells), (1, .agg v1.cells)]).run Try.prog w = .ok (.agg (twoCells v0 v1)) w := by kernel_rfl
theorem run_build_pair (v0 v1 : DV) (w : World) : (Instr.build 40 #[(0, .agg (twoCells v0 v1)), (1, .int .i64 (-1))]).run Try.prog w = .ok (.agg (PV.mk v0 v1 (-1) false).cells) w := by kernel_rfl
theorem ex_build_disks {o : Oper} {a : Act} {w : World} {x y : Operand} {v0 v1 : DV} (ho : o.op = .build 38 #[(0, x), (1, y)]) (hx : a.eval x = .agg v0.cells) (hy : a.eval y = .agg v1.cells) : (execOp a.eval o).run Try.prog w = .ok (.value (.agg (twoCells v0 v1))) w := by
  unfold execOp
  simp only [ho, List.map_toArray, List.map_cons, List.map_nil, hx, hy, Sem.run_bind, run_build_disks, Result.andThen_ok]
  rfl
theorem ex_build_pair {o : Oper} {a : Act} {w : World} {x y : Operand} {v0 v1 : DV} (ho : o.op = .build 40 #[(0, x), (1, y)]) (hx : a.eval x = .agg (twoCells v0 v1)) (hy : a.eval y = .int .i64 (-1)) : (execOp a.eval o).run Try.prog w = .ok (.value (.agg (PV.mk v0 v1 (-1) false).cells)) w := by
  unfold execOp
  simp only [ho, List.map_toArray, List.map_cons, List.map_nil, hx, hy, Sem.run_bind, run_build_pair, Result.andThen_ok]
  rfl
def freshP : Pair := ⟨fresh 32, fresh 32, -1, false⟩
set_option maxHeartbeats 2000000 in
set_option maxRecDepth 100000 in
theorem rmake_calls (w : World) :
    Calls Try.prog 15 #[.int .i64 32] w fun e w' => ∃ v : PV, e = .returned (.tuple #[.agg v.cells, .int .i64 0]) ∧ RowKit.Hid (PairAt (fun b => w.heap.size ≤ b) w' v freshP ∧ Agrees All w w') := by
  obtain ⟨W1, hW1⟩ : ∃ W1, w.alloc (.cells PV.zero.cells 40) = W1 := ⟨_, rfl⟩
  have HR1 := Lib.hid (show W1.heap[w.heap.size]? = some (.cells PV.zero.cells 40 (0, 0)) by rw [← hW1]; exact row_new _ rfl)
  have HA1 := Lib.hid (show Agrees All w W1 by rw [← hW1]; exact (Agrees.refl _ _).alloc _)
  have HN1 := Lib.hid (rnew_calls W1)
  have hs1 : W1.heap.size = w.heap.size + 1 := by rw [← hW1]; simp
  go_enter Try.func15, Try.ntmps15
  go_wp2_with (refine wpList_val rfl (ex_alloc rfl (.agg PV.zero.cells) zero_pair) ?_; rw [show (Value.agg PV.zero.cells).cells = PV.zero.cells from rfl, hW1])
  refine HN1.out.mono ?_
  rintro e W2 ⟨v0, rfl, h0⟩
  obtain ⟨W3, hW3⟩ : ∃ W3, W2.alloc (.cells DV.zero.cells 37) = W3 := ⟨_, rfl⟩
  obtain ⟨W4, hW4⟩ : ∃ W4, W3.setRow W2.heap.size v0.cells = W4 := ⟨_, rfl⟩
  have H3 := Lib.hid (show W3.heap[W2.heap.size]? = some (.cells DV.zero.cells 37 (0, 0)) by rw [← hW3]; exact row_new _ rfl)
  have HG4 := Lib.hid (show Agrees All W2 W4 by rw [← hW4, ← hW3]; exact ((Agrees.refl _ _).alloc _).setRow (.inr (Nat.le_refl _)) _)
  have H4 := Lib.hid (show W4.heap[W2.heap.size]? = some (.cells v0.cells 37 (0, 0)) by rw [← hW4]; exact setRow_heap _ _ _ _ _ _ H3.out)
  have HN2 := Lib.hid (rnew_calls W4)
  have hs2 := h0.out.2.size
  have hs4 : W2.heap.size < W4.heap.size := (Array.getElem?_eq_some_iff.1 H4.out).1
  go_wp2_with (first
    | (refine wpList_val rfl (ex_alloc rfl (.agg DV.zero.cells) zero_disk) ?_; rw [show (Value.agg DV.zero.cells).cells = DV.zero.cells from rfl, hW3])
    | (refine wpList_unit rfl (ex_storeAll (ty := 37) rfl isAgg_disk.2 W2.heap.size rfl v0.cells DV.zero.cells rfl rfl H3.out rfl (DV.one _)) ?_; rw [hW4]))
  refine HN2.out.mono ?_
  rintro e W5 ⟨v1, rfl, h1⟩
  obtain ⟨W6, hW6⟩ : ∃ W6, W5.alloc (.cells DV.zero.cells 37) = W6 := ⟨_, rfl⟩
  obtain ⟨W7, hW7⟩ : ∃ W7, W6.setRow W5.heap.size v1.cells = W7 := ⟨_, rfl⟩
  have H6 := Lib.hid (show W6.heap[W5.heap.size]? = some (.cells DV.zero.cells 37 (0, 0)) by rw [← hW6]; exact row_new _ rfl)
  have hg7 : Agrees All W5 W7 := by rw [← hW7, ← hW6]; exact ((Agrees.refl _ _).alloc _).setRow (.inr (Nat.le_refl _)) _
  have H7 := Lib.hid (show W7.heap[W5.heap.size]? = some (.cells v1.cells 37 (0, 0)) by rw [← hW7]; exact setRow_heap _ _ _ _ _ _ H6.out)
  have hg47 : Agrees All W4 W7 := h1.out.2.trans hg7
  have HA7 := Lib.hid ((HA1.out.trans h0.out.2).trans (HG4.out.trans hg47))
  have H47 := Lib.hid ((hg47.block _ (Array.getElem?_eq_some_iff.1 H4.out).1 trivial).trans H4.out)
  have HR7 := Lib.hid (((h0.out.2.trans (HG4.out.trans hg47)).block _ (Array.getElem?_eq_some_iff.1 HR1.out).1 trivial).trans HR1.out)
  have hD0 := h0.out.1.agrees (HG4.out.trans hg47) fun _ _ => trivial
  have hD1 := h1.out.1.agrees hg7 fun _ _ => trivial
  have HP7 := Lib.hid (show PairAt (fun b => w.heap.size + 1 ≤ b) W7 ⟨v0, v1, -1, false⟩ freshP from
    ⟨hD0.mono fun b hb => by omega, hD1.mono fun b hb => by omega, rfl, rfl, ⟨(by decide : (-9223372036854775808 : Int) ≤ -1), (by decide : (-1 : Int) ≤ 9223372036854775807)⟩⟩)
  clear hg7 hg47 hD0 hD1
  go_wp2_with (first
    | (refine wpList_val rfl (ex_alloc rfl (.agg DV.zero.cells) zero_disk) ?_; rw [show (Value.agg DV.zero.cells).cells = DV.zero.cells from rfl, hW6])
    | (refine wpList_unit rfl (ex_storeAll (ty := 37) rfl isAgg_disk.2 W5.heap.size rfl v1.cells DV.zero.cells rfl rfl H6.out rfl (DV.one _)) ?_; rw [hW7])
    | (refine wpList_val rfl (ex_load (ty := 37) rfl isAgg_disk W2.heap.size 0 rfl v0.cells rfl (v0.load H47.out)) ?_)
    | (refine wpList_val rfl (ex_load (ty := 37) rfl isAgg_disk W5.heap.size 0 rfl v1.cells rfl (v1.load H7.out)) ?_)
    | (refine wpList_val rfl (ex_build_disks (v0 := v0) (v1 := v1) rfl rfl rfl) ?_)
    | (refine wpList_val rfl (ex_build_pair (v0 := v0) (v1 := v1) rfl rfl rfl) ?_)
    | (refine wpList_unit rfl (ex_storeAll (ty := 40) rfl isAgg_pair.2 w.heap.size rfl (PV.mk v0 v1 (-1) false).cells PV.zero.cells rfl rfl HR7.out rfl (PV.one _)) ?_))
  have hrow := setRow_heap W7 w.heap.size PV.zero.cells (PV.mk v0 v1 (-1) false).cells _ _ HR7.out
  refine bodyPost_ret (results_a1t1' rfl _ (b := w.heap.size) rfl isAgg_pair (vs := (PV.mk v0 v1 (-1) false).cells) rfl (PV.load _ hrow) rfl) rfl ⟨_, rfl, Lib.hid ⟨?_, HA7.out.setRow (.inr (Nat.le_refl _)) _⟩⟩
  exact (HP7.out.agrees ((Agrees.refl (fun b => b ≠ w.heap.size) W7).setRow (.inl fun h => h rfl) _) (fun b hb => by omega)).mono fun b hb => by omega
end Suture
