/-
  suturelaw11.FetchMends answers true: what is read fits its pointer; behind a scan no copy on an attached disk is bad; where nothing is bad nothing is written.
  Conditions: none beyond the pair's own reading.
-/
import Derived.Test.YtmkbchhmeaefeaaFM1
namespace Suture
open Go Go.RowKit Go.Proofs
attribute [local go_sem] Oper.semAt_some

theorem wrap_small {z : Int} (h : 0 ≤ z) (h2 : z ≤ 9223372036854775807) : IntKind.i64.wrap z = z := by rw [IntKind.wrap_i64]; omega
/-- the boxes of the law -/
structure MRows (W : World) (n a c : Nat) (v ov qv : PV) (x : Ptr) (pg qg : List (BitVec 8)) (t u : Tal) : Prop where
  r0 : W.heap[n]? = some (.cells v.cells 40 (0, 0))
  r1 : W.heap[n + 1]? = some (.cells x.cells 48 (0, 0))
  r5 : W.heap[a]? = some (.cells (pageCells pg) 32 (0, 0))
  r6 : W.heap[a + 1]? = some (.cells ov.cells 40 (0, 0))
  r7 : W.heap[a + 1 + 1]? = some (.cells t.cells 57 (0, 0))
  r9 : W.heap[c]? = some (.cells (pageCells qg) 32 (0, 0))
  r10 : W.heap[c + 1]? = some (.cells qv.cells 40 (0, 0))
  r11 : W.heap[c + 1 + 1]? = some (.cells u.cells 57 (0, 0))
theorem MRows.agrees {W W' : World} {n a c : Nat} {v ov qv : PV} {x : Ptr} {pg qg : List (BitVec 8)} {t u : Tal} (h : MRows W n a c v ov qv x pg qg t u) (g : Agrees All W W') : MRows W' n a c v ov qv x pg qg t u := by
  have k : ∀ {b : Nat} {o : Obj}, W.heap[b]? = some o → W'.heap[b]? = some o := fun hb => (g.block _ (Array.getElem?_eq_some_iff.1 hb).1 trivial).trans hb
  exact ⟨k h.r0, k h.r1, k h.r5, k h.r6, k h.r7, k h.r9, k h.r10, k h.r11⟩
theorem MRows.tals {W : World} {n a c : Nat} {v ov qv : PV} {x : Ptr} {pg qg : List (BitVec 8)} {tr tb tm ur ub um : Int} (h : MRows W n a c v ov qv x pg qg ⟨tr, tb, tm⟩ ⟨ur, ub, um⟩) :
    W.cell? ⟨a + 1 + 1, 0, none⟩ = some (.int .i64 tr) ∧ W.cell? ⟨a + 1 + 1, 1, none⟩ = some (.int .i64 tb) ∧ W.cell? ⟨a + 1 + 1, 2, none⟩ = some (.int .i64 tm) ∧
    W.cell? ⟨c + 1 + 1, 0, none⟩ = some (.int .i64 ur) ∧ W.cell? ⟨c + 1 + 1, 1, none⟩ = some (.int .i64 ub) ∧ W.cell? ⟨c + 1 + 1, 2, none⟩ = some (.int .i64 um) := by
  refine ⟨?_, ?_, ?_, ?_, ?_, ?_⟩
  · rw [cell_of_row _ _ _ _ _ _ h.r7]; rfl
  · rw [cell_of_row _ _ _ _ _ _ h.r7]; rfl
  · rw [cell_of_row _ _ _ _ _ _ h.r7]; rfl
  · rw [cell_of_row _ _ _ _ _ _ h.r11]; rfl
  · rw [cell_of_row _ _ _ _ _ _ h.r11]; rfl
  · rw [cell_of_row _ _ _ _ _ _ h.r11]; rfl

set_option maxHeartbeats 16000000 in
set_option maxRecDepth 100000 in
theorem fetchMends_calls (v : PV) (P : Pair) (x : Ptr) (hx : x.ok) (w : World) (hv : PairAt All w v P) :
    Calls Try.prog 10 #[.agg v.cells, .agg x.cells] w fun e w' => e = .returned (.bool true) ∧ Agrees All w w' := by
  obtain ⟨W1, hW1⟩ : ∃ W1, w.alloc (.cells v.cells 40) = W1 := ⟨_, rfl⟩
  obtain ⟨W2, hW2⟩ : ∃ W2, W1.alloc (.cells x.cells 48) = W2 := ⟨_, rfl⟩
  have hs1 : W1.heap.size = w.heap.size + 1 := by rw [← hW1]; simp
  have hA2 : Agrees All w W2 := by rw [← hW2, ← hW1]; exact ((Agrees.refl _ w).alloc _).alloc _
  have HR0 := Lib.hid (show W2.heap[w.heap.size]? = some (.cells v.cells 40 (0, 0)) by rw [← hW2, ← hW1]; exact row_old (row_new _ rfl))
  have HR1 := Lib.hid (show W2.heap[w.heap.size + 1]? = some (.cells x.cells 48 (0, 0)) by rw [← hW2]; exact row_new _ hs1)
  have HG := Lib.hid (great_calls v P W2 (hv.agrees hA2 fun _ h => h))
  have HV := Lib.hid hv
  have HA2 := Lib.hid hA2
  have HMD := Lib.hid (mends P x)
  have HLL1 := Lib.hid (P.look_len x false fun c => Disk.read_len _ (HV.out.disk _).ok _)
  have HLL2 := Lib.hid (P.look_len x true fun c => Disk.read_len _ (HV.out.disk _).ok _)
  clear hv hA2
  go_enter Try.func10, Try.ntmps10
  go_wp2_with (refine wpList_val rfl (ex_load (ty := 40) rfl isAgg_pair w.heap.size 0 rfl v.cells rfl (v.load HR0.out)) ?_)
  refine HG.out.mono ?_
  rintro e W3 ⟨rfl, hag⟩
  have HA3 := Lib.hid (HA2.out.trans hag)
  have HQ0 := Lib.hid ((hag.block _ (Array.getElem?_eq_some_iff.1 HR0.out).1 trivial).trans HR0.out)
  have HQ1 := Lib.hid ((hag.block _ (Array.getElem?_eq_some_iff.1 HR1.out).1 trivial).trans HR1.out)
  clear hag HR0 HR1 HG HA2 hW1 hW2 hs1
  cases hgr : P.great
  · have HLOW := Lib.hid (great_low hgr)
    have HRD := Lib.hid (fread_calls All v P x hx W3 (HV.out.agrees HA3.out fun _ h => h) HLOW.out)
    clear hgr
    generalize hrr : P.look x false = rr at *
    obtain ⟨pg, OP, ⟨tr, tb, tm⟩, er⟩ := rr
    clear hrr
    have HL1 : RowKit.Hid (pg.length = 256) := HLL1
    have HP1 := Lib.hid (show (pageCells pg).size = 256 by rw [pageCells_size]; exact HL1.out)
    have HPN := Lib.hid (show (pageCells noPage).size = 256 by rw [pageCells_size]; exact noPage_len)
    clear HLL1
    go_wp2_with (first
        | (refine wpList_val rfl (ex_load (ty := 40) rfl isAgg_pair w.heap.size 0 rfl v.cells rfl (v.load HQ0.out)) ?_)
        | (refine wpList_val rfl (ex_load (ty := 48) rfl isAgg_ptr (w.heap.size + 1) 0 rfl x.cells rfl (x.load HQ1.out)) ?_))
    refine HRD.out.mono ?_
    rintro e W4 ⟨ov, rfl, hov, hag⟩
    obtain ⟨A1, A2, A3, S1, S2, W5, hA1, hA2, hA3, hS1, hS2, hS3, hsA1, hsA2, hz1, hz2, hz3, hr5, hr6, hr7, hg5⟩ := box_new3 W4 (pageCells noPage) PV.zero.cells (Tal.mk 0 0 0).cells (pageCells pg) ov.cells (Tal.mk tr tb tm).cells 32 40 57
    have hg := hag.trans hg5
    have HZ1 := Lib.hid hz1
    have HZ2 := Lib.hid hz2
    have HZ3 := Lib.hid hz3
    have HR5 := Lib.hid hr5
    have HR6 := Lib.hid hr6
    have HR7 := Lib.hid hr7
    have HO := Lib.hid ((hov.mono (S := All) fun _ _ => trivial).agrees hg5 fun _ _ => trivial)
    have HA5 := Lib.hid (HA3.out.trans hg)
    have HR0 := Lib.hid ((hg.block _ (Array.getElem?_eq_some_iff.1 HQ0.out).1 trivial).trans HQ0.out)
    have HR1 := Lib.hid ((hg.block _ (Array.getElem?_eq_some_iff.1 HQ1.out).1 trivial).trans HQ1.out)
    have HSC := Lib.hid (fscan_calls All v P x hx W5 (HV.out.agrees HA5.out fun _ h => h) HLOW.out)
    have HPG := HP1
    clear hz1 hz2 hz3 hr5 hr6 hr7 hg5 hg hag hov HQ0 HQ1 HA3 HRD
    generalize hss : P.look x true = ss at *
    obtain ⟨qg, OQ, ⟨ur, ub, um⟩, fr⟩ := ss
    clear hss
    have HL2 : RowKit.Hid (qg.length = 256) := HLL2
    have HP2 := Lib.hid (show (pageCells qg).size = 256 by rw [pageCells_size]; exact HL2.out)
    clear HLL2
    go_wp2_with (first
        | (refine wpList_val rfl (ex_alloc rfl (.agg (pageCells noPage)) zero_page) ?_; rw [show (Value.agg (pageCells noPage)).cells = pageCells noPage from rfl, hA1])
        | (refine wpList_val rfl (ex_alloc rfl (.agg PV.zero.cells) zero_pair) ?_; rw [show (Value.agg PV.zero.cells).cells = PV.zero.cells from rfl, hA2, hsA1])
        | (refine wpList_val rfl (ex_alloc rfl (.agg (Tal.mk 0 0 0).cells) zero_tally) ?_; rw [show (Value.agg (Tal.mk 0 0 0).cells).cells = (Tal.mk 0 0 0).cells from rfl, hA3, hsA2])
        | (refine wpList_unit rfl (ex_storeAll (ty := 32) rfl isAgg_page.2 W4.heap.size rfl (pageCells pg) (pageCells noPage) rfl HPG.out HZ1.out HPN.out (pageCells_one _)) ?_; rw [hS1])
        | (refine wpList_unit rfl (ex_storeAll (ty := 40) rfl isAgg_pair.2 (W4.heap.size + 1) rfl ov.cells PV.zero.cells rfl rfl HZ2.out rfl (PV.one _)) ?_; rw [hS2])
        | (refine wpList_unit rfl (ex_storeAll (ty := 57) rfl isAgg_tally.2 (W4.heap.size + 1 + 1) rfl (Tal.mk tr tb tm).cells (Tal.mk 0 0 0).cells rfl rfl HZ3.out rfl (Tal.one _)) ?_; rw [hS3])
        | (refine wpList_val rfl (ex_load (ty := 40) rfl isAgg_pair w.heap.size 0 rfl v.cells rfl (v.load HR0.out)) ?_)
        | (refine wpList_val rfl (ex_load (ty := 48) rfl isAgg_ptr (w.heap.size + 1) 0 rfl x.cells rfl (x.load HR1.out)) ?_))
    clear HPG HZ1 HZ2 HZ3 hA1 hA2 hA3 hS1 hS2 hS3 hsA1 hsA2
    refine HSC.out.mono ?_
    rintro e W6 ⟨qv, rfl, hqv, hag⟩
    obtain ⟨B1, B2, B3, T1, T2, W7, kA1, kA2, kA3, kS1, kS2, kS3, ksA1, ksA2, hz1, hz2, hz3, hr9, hr10, hr11, hg7⟩ := box_new3 W6 (pageCells noPage) PV.zero.cells (Tal.mk 0 0 0).cells (pageCells qg) qv.cells (Tal.mk ur ub um).cells 32 40 57
    have hg := hag.trans hg7
    have HZ1 := Lib.hid hz1
    have HZ2 := Lib.hid hz2
    have HZ3 := Lib.hid hz3
    have HAG := Lib.hid (HA5.out.trans hg)
    replace HO := Lib.hid (HO.out.agrees hg fun _ _ => trivial)
    have HQ := Lib.hid ((hqv.mono (S := All) fun _ _ => trivial).agrees hg7 fun _ _ => trivial)
    have k : ∀ {b : Nat} {o : Obj}, W5.heap[b]? = some o → W7.heap[b]? = some o := fun hb => (hg.block _ (Array.getElem?_eq_some_iff.1 hb).1 trivial).trans hb
    have HMR : RowKit.Hid (MRows W7 w.heap.size W4.heap.size W6.heap.size v ov qv x pg qg ⟨tr, tb, tm⟩ ⟨ur, ub, um⟩) := Lib.hid ⟨k HR0.out, k HR1.out, k HR5.out, k HR6.out, k HR7.out, hr9, hr10, hr11⟩
    have HPG := HP2
    have HB := Lib.hid (bad_calls v P x hx W7 (HV.out.agrees HAG.out fun _ h => h) (HV.out.small HLOW.out))
    clear k hz1 hz2 hz3 hr9 hr10 hr11 hg7 hg hag hqv HR0 HR1 HR5 HR6 HR7 HA5 HSC
    obtain ⟨nb, hnb⟩ : ∃ nb : Int, ((P.bad x).length : Int) = nb := ⟨_, rfl⟩
    have HF1 : RowKit.Hid (er = 0 → x.fits pg = true ∧ tr = tb + 1 ∧ tm = tb) := Lib.hid HMD.out.f1
    have HF2 : RowKit.Hid (fr = 0 → x.fits qg = true ∧ OQ.bad x = [] ∧ ub = nb ∧ um = nb) := Lib.hid fun h => by
      obtain ⟨a1, a2, a3, a4⟩ := HMD.out.f2 h
      exact ⟨a1, a2, a3.trans hnb, a4.trans hnb⟩
    have HF3 : RowKit.Hid ((er ≠ 0 → pg = noPage) ∧ (fr ≠ 0 → qg = noPage)) := Lib.hid HMD.out.f3
    have hF4 : tr ≤ ur ∧ tb ≤ ub := HMD.out.f4
    have hk1 : decide (ur < tr) = false := decide_eq_false (by omega)
    have hk2 : decide (ub < tb) = false := decide_eq_false (by omega)
    have HF5 : RowKit.Hid (nb = 0 → OP = P ∧ OQ = P) := Lib.hid fun h => HMD.out.f5 (by omega)
    have HF6 : RowKit.Hid (er = 50 → fr = 50 ∧ ub = ur ∧ OP = P) := Lib.hid HMD.out.f6
    have HF7 : RowKit.Hid (fr = 0 → er = 0) := Lib.hid HMD.out.f7
    have HLQ : RowKit.Hid OQ.low := Lib.hid (HMD.out.low HLOW.out)
    have HBN : RowKit.Hid (0 ≤ tb ∧ tb ≤ 4) := Lib.hid HMD.out.bnd
    have HKN := Lib.hid (keyed_page noPage noPage_len)
    have HNB := Lib.hid hnb
    clear HMD hF4 hnb
    go_wp2_with (first
        | (refine wpList_val rfl (ex_alloc rfl (.agg (pageCells noPage)) zero_page) ?_; rw [show (Value.agg (pageCells noPage)).cells = pageCells noPage from rfl, kA1])
        | (refine wpList_val rfl (ex_alloc rfl (.agg PV.zero.cells) zero_pair) ?_; rw [show (Value.agg PV.zero.cells).cells = PV.zero.cells from rfl, kA2, ksA1])
        | (refine wpList_val rfl (ex_alloc rfl (.agg (Tal.mk 0 0 0).cells) zero_tally) ?_; rw [show (Value.agg (Tal.mk 0 0 0).cells).cells = (Tal.mk 0 0 0).cells from rfl, kA3, ksA2])
        | (refine wpList_unit rfl (ex_storeAll (ty := 32) rfl isAgg_page.2 W6.heap.size rfl (pageCells qg) (pageCells noPage) rfl HPG.out HZ1.out HPN.out (pageCells_one _)) ?_; rw [kS1])
        | (refine wpList_unit rfl (ex_storeAll (ty := 40) rfl isAgg_pair.2 (W6.heap.size + 1) rfl qv.cells PV.zero.cells rfl rfl HZ2.out rfl (PV.one _)) ?_; rw [kS2])
        | (refine wpList_unit rfl (ex_storeAll (ty := 57) rfl isAgg_tally.2 (W6.heap.size + 1 + 1) rfl (Tal.mk ur ub um).cells (Tal.mk 0 0 0).cells rfl rfl HZ3.out rfl (Tal.one _)) ?_; rw [kS3])
        | (refine wpList_val rfl (ex_load (ty := 40) rfl isAgg_pair w.heap.size 0 rfl v.cells rfl (PV.load _ HMR.out.r0)) ?_)
        | (refine wpList_val rfl (ex_load (ty := 48) rfl isAgg_ptr (w.heap.size + 1) 0 rfl x.cells rfl (Ptr.load _ HMR.out.r1)) ?_)
        | (refine wpList_val rfl (ex_load (ty := 32) rfl isAgg_page W4.heap.size 0 rfl _ HP1.out (fun j _ => by rw [Nat.zero_add]; exact cell_of_row _ _ _ _ _ _ HMR.out.r5)) ?_)
        | (refine wpList_val rfl (ex_load (ty := 40) rfl isAgg_pair (W4.heap.size + 1) 0 rfl ov.cells rfl (PV.load _ HMR.out.r6)) ?_)
        | (refine wpList_val rfl (ex_load (ty := 32) rfl isAgg_page W6.heap.size 0 rfl _ HP2.out (fun j _ => by rw [Nat.zero_add]; exact cell_of_row _ _ _ _ _ _ HMR.out.r9)) ?_)
        | (refine wpList_val rfl (ex_load (ty := 40) rfl isAgg_pair (W6.heap.size + 1) 0 rfl qv.cells rfl (PV.load _ HMR.out.r10)) ?_)
        | (refine wpList_val rfl (ex_build0 rfl) ?_)
        | (refine wpList_neq keyable_page HKN.out HKN.out rfl rfl rfl rfl ?_; intro r hr; obtain rfl := hr.2 rfl))
    clear HPG HZ1 HZ2 HZ3 kA1 kA2 kA3 kS1 kS2 kS3 ksA1 ksA2
    refine HB.out.mono ?_
    rintro e W' ⟨u, rfl, hu, hag⟩
    obtain ⟨la, lc, rfl⟩ := own_slice hu
    replace HAG := Lib.hid (HAG.out.trans hag)
    replace HMR := Lib.hid (HMR.out.agrees hag)
    replace HO := Lib.hid (HO.out.agrees hag fun _ _ => trivial)
    replace HQ := Lib.hid (HQ.out.agrees hag fun _ _ => trivial)
    have hnb := HNB.out
    clear hag hu HB HNB
    by_cases he0 : er = 0
    · subst he0
      by_cases hf0 : fr = 0
      · subst hf0
        obtain ⟨hfit, htr, htm⟩ := HF1.out rfl
        obtain ⟨hfit2, hb0, hub, hum⟩ := HF2.out rfl
        have HB0 : RowKit.Hid ((OQ.bad x).length = 0) := Lib.hid (by rw [hb0]; rfl)
        have hwr : IntKind.i64.wrap (tb + 1) = tr := by rw [htr]; exact wrap_small (by have := HBN.out; omega) (by have := HBN.out; omega)
        replace htm := htm.symm
        replace hub := hub.symm
        replace hum := hum.symm
        subst htm hub hum
        clear hb0 htr
        by_cases hz : nb = 0
        · subst hz
          obtain ⟨hop', hqp⟩ := HF5.out rfl
          have HOP := Lib.hid hop'
          have HQP := Lib.hid hqp
          clear hop' hqp HF1 HF2 HF3 HF5 HF6 HF7
          obtain ⟨c70, c71, c72, d110, d111, d112⟩ := HMR.out.tals
          go_wp2_with (first
              | go_skip
              | (refine wpList_val rfl (ex_load (ty := 40) rfl isAgg_pair w.heap.size 0 rfl v.cells rfl (PV.load _ HMR.out.r0)) ?_)
              | (refine wpList_val rfl (ex_load (ty := 48) rfl isAgg_ptr (w.heap.size + 1) 0 rfl x.cells rfl (Ptr.load _ HMR.out.r1)) ?_)
              | (refine wpList_val rfl (ex_load (ty := 32) rfl isAgg_page W4.heap.size 0 rfl _ HP1.out (fun j _ => by rw [Nat.zero_add]; exact cell_of_row _ _ _ _ _ _ HMR.out.r5)) ?_)
              | (refine wpList_val rfl (ex_load (ty := 40) rfl isAgg_pair (W4.heap.size + 1) 0 rfl ov.cells rfl (PV.load _ HMR.out.r6)) ?_)
              | (refine wpList_val rfl (ex_load (ty := 32) rfl isAgg_page W6.heap.size 0 rfl _ HP2.out (fun j _ => by rw [Nat.zero_add]; exact cell_of_row _ _ _ _ _ _ HMR.out.r9)) ?_)
              | (refine wpList_val rfl (ex_load (ty := 40) rfl isAgg_pair (W6.heap.size + 1) 0 rfl qv.cells rfl (PV.load _ HMR.out.r10)) ?_)
              | (refine wpList_val rfl (ex_build0 rfl) ?_)
              | (refine wpList_neq keyable_page HKN.out HKN.out rfl rfl rfl rfl ?_; intro r hr; obtain rfl := hr.2 rfl))
          clear c70 c71 c72 d110 d111 d112
          refine (rfits_calls x _ HL1.out _).mono ?_
          rintro e W' ⟨rfl, hag⟩
          replace HAG := Lib.hid (HAG.out.trans hag)
          replace HMR := Lib.hid (HMR.out.agrees hag)
          replace HO := Lib.hid (HO.out.agrees hag fun _ _ => trivial)
          replace HQ := Lib.hid (HQ.out.agrees hag fun _ _ => trivial)
          clear hag
          rw [hfit]
          obtain ⟨c70, c71, c72, d110, d111, d112⟩ := HMR.out.tals
          go_wp2_with (first
              | go_skip
              | (refine wpList_val rfl (ex_load (ty := 40) rfl isAgg_pair w.heap.size 0 rfl v.cells rfl (PV.load _ HMR.out.r0)) ?_)
              | (refine wpList_val rfl (ex_load (ty := 48) rfl isAgg_ptr (w.heap.size + 1) 0 rfl x.cells rfl (Ptr.load _ HMR.out.r1)) ?_)
              | (refine wpList_val rfl (ex_load (ty := 32) rfl isAgg_page W4.heap.size 0 rfl _ HP1.out (fun j _ => by rw [Nat.zero_add]; exact cell_of_row _ _ _ _ _ _ HMR.out.r5)) ?_)
              | (refine wpList_val rfl (ex_load (ty := 40) rfl isAgg_pair (W4.heap.size + 1) 0 rfl ov.cells rfl (PV.load _ HMR.out.r6)) ?_)
              | (refine wpList_val rfl (ex_load (ty := 32) rfl isAgg_page W6.heap.size 0 rfl _ HP2.out (fun j _ => by rw [Nat.zero_add]; exact cell_of_row _ _ _ _ _ _ HMR.out.r9)) ?_)
              | (refine wpList_val rfl (ex_load (ty := 40) rfl isAgg_pair (W6.heap.size + 1) 0 rfl qv.cells rfl (PV.load _ HMR.out.r10)) ?_)
              | (refine wpList_val rfl (ex_build0 rfl) ?_)
              | (refine wpList_neq keyable_page HKN.out HKN.out rfl rfl rfl rfl ?_; intro r hr; obtain rfl := hr.2 rfl))
          clear c70 c71 c72 d110 d111 d112
          refine (rfits_calls x _ HL2.out _).mono ?_
          rintro e W' ⟨rfl, hag⟩
          replace HAG := Lib.hid (HAG.out.trans hag)
          replace HMR := Lib.hid (HMR.out.agrees hag)
          replace HO := Lib.hid (HO.out.agrees hag fun _ _ => trivial)
          replace HQ := Lib.hid (HQ.out.agrees hag fun _ _ => trivial)
          clear hag
          rw [hfit2]
          obtain ⟨c70, c71, c72, d110, d111, d112⟩ := HMR.out.tals
          go_wp2_with (first
              | go_skip
              | (refine wpList_val rfl (ex_load (ty := 40) rfl isAgg_pair w.heap.size 0 rfl v.cells rfl (PV.load _ HMR.out.r0)) ?_)
              | (refine wpList_val rfl (ex_load (ty := 48) rfl isAgg_ptr (w.heap.size + 1) 0 rfl x.cells rfl (Ptr.load _ HMR.out.r1)) ?_)
              | (refine wpList_val rfl (ex_load (ty := 32) rfl isAgg_page W4.heap.size 0 rfl _ HP1.out (fun j _ => by rw [Nat.zero_add]; exact cell_of_row _ _ _ _ _ _ HMR.out.r5)) ?_)
              | (refine wpList_val rfl (ex_load (ty := 40) rfl isAgg_pair (W4.heap.size + 1) 0 rfl ov.cells rfl (PV.load _ HMR.out.r6)) ?_)
              | (refine wpList_val rfl (ex_load (ty := 32) rfl isAgg_page W6.heap.size 0 rfl _ HP2.out (fun j _ => by rw [Nat.zero_add]; exact cell_of_row _ _ _ _ _ _ HMR.out.r9)) ?_)
              | (refine wpList_val rfl (ex_load (ty := 40) rfl isAgg_pair (W6.heap.size + 1) 0 rfl qv.cells rfl (PV.load _ HMR.out.r10)) ?_)
              | (refine wpList_val rfl (ex_build0 rfl) ?_)
              | (refine wpList_neq keyable_page HKN.out HKN.out rfl rfl rfl rfl ?_; intro r hr; obtain rfl := hr.2 rfl))
          clear c70 c71 c72 d110 d111 d112
          refine (bad_calls qv OQ x hx _ HQ.out (HQ.out.small HLQ.out)).mono ?_
          rintro e W' ⟨u, rfl, hu, hag⟩
          replace HAG := Lib.hid (HAG.out.trans hag)
          replace HMR := Lib.hid (HMR.out.agrees hag)
          replace HO := Lib.hid (HO.out.agrees hag fun _ _ => trivial)
          replace HQ := Lib.hid (HQ.out.agrees hag fun _ _ => trivial)
          clear hag
          obtain ⟨ua, uc, rfl⟩ := own_slice hu
          clear hu
          rw [HB0.out]
          obtain ⟨c70, c71, c72, d110, d111, d112⟩ := HMR.out.tals
          go_wp2_with (first
              | go_skip
              | (refine wpList_val rfl (ex_load (ty := 40) rfl isAgg_pair w.heap.size 0 rfl v.cells rfl (PV.load _ HMR.out.r0)) ?_)
              | (refine wpList_val rfl (ex_load (ty := 48) rfl isAgg_ptr (w.heap.size + 1) 0 rfl x.cells rfl (Ptr.load _ HMR.out.r1)) ?_)
              | (refine wpList_val rfl (ex_load (ty := 32) rfl isAgg_page W4.heap.size 0 rfl _ HP1.out (fun j _ => by rw [Nat.zero_add]; exact cell_of_row _ _ _ _ _ _ HMR.out.r5)) ?_)
              | (refine wpList_val rfl (ex_load (ty := 40) rfl isAgg_pair (W4.heap.size + 1) 0 rfl ov.cells rfl (PV.load _ HMR.out.r6)) ?_)
              | (refine wpList_val rfl (ex_load (ty := 32) rfl isAgg_page W6.heap.size 0 rfl _ HP2.out (fun j _ => by rw [Nat.zero_add]; exact cell_of_row _ _ _ _ _ _ HMR.out.r9)) ?_)
              | (refine wpList_val rfl (ex_load (ty := 40) rfl isAgg_pair (W6.heap.size + 1) 0 rfl qv.cells rfl (PV.load _ HMR.out.r10)) ?_)
              | (refine wpList_val rfl (ex_build0 rfl) ?_)
              | (refine wpList_neq keyable_page HKN.out HKN.out rfl rfl rfl rfl ?_; intro r hr; obtain rfl := hr.2 rfl))
          clear c70 c71 c72 d110 d111 d112
          refine (same_calls ov v P _ (by have := HO.out; rwa [HOP.out] at this) (HV.out.agrees HAG.out fun _ h => h)).mono ?_
          rintro e W' ⟨rfl, hag⟩
          replace HAG := Lib.hid (HAG.out.trans hag)
          replace HMR := Lib.hid (HMR.out.agrees hag)
          replace HO := Lib.hid (HO.out.agrees hag fun _ _ => trivial)
          replace HQ := Lib.hid (HQ.out.agrees hag fun _ _ => trivial)
          clear hag
          obtain ⟨c70, c71, c72, d110, d111, d112⟩ := HMR.out.tals
          go_wp2_with (first
              | go_skip
              | (refine wpList_val rfl (ex_load (ty := 40) rfl isAgg_pair w.heap.size 0 rfl v.cells rfl (PV.load _ HMR.out.r0)) ?_)
              | (refine wpList_val rfl (ex_load (ty := 48) rfl isAgg_ptr (w.heap.size + 1) 0 rfl x.cells rfl (Ptr.load _ HMR.out.r1)) ?_)
              | (refine wpList_val rfl (ex_load (ty := 32) rfl isAgg_page W4.heap.size 0 rfl _ HP1.out (fun j _ => by rw [Nat.zero_add]; exact cell_of_row _ _ _ _ _ _ HMR.out.r5)) ?_)
              | (refine wpList_val rfl (ex_load (ty := 40) rfl isAgg_pair (W4.heap.size + 1) 0 rfl ov.cells rfl (PV.load _ HMR.out.r6)) ?_)
              | (refine wpList_val rfl (ex_load (ty := 32) rfl isAgg_page W6.heap.size 0 rfl _ HP2.out (fun j _ => by rw [Nat.zero_add]; exact cell_of_row _ _ _ _ _ _ HMR.out.r9)) ?_)
              | (refine wpList_val rfl (ex_load (ty := 40) rfl isAgg_pair (W6.heap.size + 1) 0 rfl qv.cells rfl (PV.load _ HMR.out.r10)) ?_)
              | (refine wpList_val rfl (ex_build0 rfl) ?_)
              | (refine wpList_neq keyable_page HKN.out HKN.out rfl rfl rfl rfl ?_; intro r hr; obtain rfl := hr.2 rfl))
          clear c70 c71 c72 d110 d111 d112
          refine (same_calls qv v P _ (by have := HQ.out; rwa [HQP.out] at this) (HV.out.agrees HAG.out fun _ h => h)).mono ?_
          rintro e W' ⟨rfl, hag⟩
          replace HAG := Lib.hid (HAG.out.trans hag)
          replace HMR := Lib.hid (HMR.out.agrees hag)
          replace HO := Lib.hid (HO.out.agrees hag fun _ _ => trivial)
          replace HQ := Lib.hid (HQ.out.agrees hag fun _ _ => trivial)
          clear hag
          obtain ⟨c70, c71, c72, d110, d111, d112⟩ := HMR.out.tals
          go_wp2_with (first
              | go_skip
              | (refine wpList_val rfl (ex_load (ty := 40) rfl isAgg_pair w.heap.size 0 rfl v.cells rfl (PV.load _ HMR.out.r0)) ?_)
              | (refine wpList_val rfl (ex_load (ty := 48) rfl isAgg_ptr (w.heap.size + 1) 0 rfl x.cells rfl (Ptr.load _ HMR.out.r1)) ?_)
              | (refine wpList_val rfl (ex_load (ty := 32) rfl isAgg_page W4.heap.size 0 rfl _ HP1.out (fun j _ => by rw [Nat.zero_add]; exact cell_of_row _ _ _ _ _ _ HMR.out.r5)) ?_)
              | (refine wpList_val rfl (ex_load (ty := 40) rfl isAgg_pair (W4.heap.size + 1) 0 rfl ov.cells rfl (PV.load _ HMR.out.r6)) ?_)
              | (refine wpList_val rfl (ex_load (ty := 32) rfl isAgg_page W6.heap.size 0 rfl _ HP2.out (fun j _ => by rw [Nat.zero_add]; exact cell_of_row _ _ _ _ _ _ HMR.out.r9)) ?_)
              | (refine wpList_val rfl (ex_load (ty := 40) rfl isAgg_pair (W6.heap.size + 1) 0 rfl qv.cells rfl (PV.load _ HMR.out.r10)) ?_)
              | (refine wpList_val rfl (ex_build0 rfl) ?_)
              | (refine wpList_neq keyable_page HKN.out HKN.out rfl rfl rfl rfl ?_; intro r hr; obtain rfl := hr.2 rfl))
          clear c70 c71 c72 d110 d111 d112
          refine (wakes_calls _).mono ?_
          rintro e W' ⟨rfl, hag⟩
          replace HAG := Lib.hid (HAG.out.trans hag)
          replace HMR := Lib.hid (HMR.out.agrees hag)
          replace HO := Lib.hid (HO.out.agrees hag fun _ _ => trivial)
          replace HQ := Lib.hid (HQ.out.agrees hag fun _ _ => trivial)
          clear hag
          obtain ⟨c70, c71, c72, d110, d111, d112⟩ := HMR.out.tals
          go_wp2_with (first
              | go_skip
              | (refine wpList_val rfl (ex_load (ty := 40) rfl isAgg_pair w.heap.size 0 rfl v.cells rfl (PV.load _ HMR.out.r0)) ?_)
              | (refine wpList_val rfl (ex_load (ty := 48) rfl isAgg_ptr (w.heap.size + 1) 0 rfl x.cells rfl (Ptr.load _ HMR.out.r1)) ?_)
              | (refine wpList_val rfl (ex_load (ty := 32) rfl isAgg_page W4.heap.size 0 rfl _ HP1.out (fun j _ => by rw [Nat.zero_add]; exact cell_of_row _ _ _ _ _ _ HMR.out.r5)) ?_)
              | (refine wpList_val rfl (ex_load (ty := 40) rfl isAgg_pair (W4.heap.size + 1) 0 rfl ov.cells rfl (PV.load _ HMR.out.r6)) ?_)
              | (refine wpList_val rfl (ex_load (ty := 32) rfl isAgg_page W6.heap.size 0 rfl _ HP2.out (fun j _ => by rw [Nat.zero_add]; exact cell_of_row _ _ _ _ _ _ HMR.out.r9)) ?_)
              | (refine wpList_val rfl (ex_load (ty := 40) rfl isAgg_pair (W6.heap.size + 1) 0 rfl qv.cells rfl (PV.load _ HMR.out.r10)) ?_)
              | (refine wpList_val rfl (ex_build0 rfl) ?_)
              | (refine wpList_neq keyable_page HKN.out HKN.out rfl rfl rfl rfl ?_; intro r hr; obtain rfl := hr.2 rfl))
          clear c70 c71 c72 d110 d111 d112
          go_ret
          exact ⟨rfl, HAG.out⟩
        · have hnz : (nb == 0) = false := by simpa using hz
          clear HF1 HF2 HF3 HF5 HF6 HF7 hz
          obtain ⟨c70, c71, c72, d110, d111, d112⟩ := HMR.out.tals
          go_wp2_with (first
              | go_skip
              | (refine wpList_val rfl (ex_load (ty := 40) rfl isAgg_pair w.heap.size 0 rfl v.cells rfl (PV.load _ HMR.out.r0)) ?_)
              | (refine wpList_val rfl (ex_load (ty := 48) rfl isAgg_ptr (w.heap.size + 1) 0 rfl x.cells rfl (Ptr.load _ HMR.out.r1)) ?_)
              | (refine wpList_val rfl (ex_load (ty := 32) rfl isAgg_page W4.heap.size 0 rfl _ HP1.out (fun j _ => by rw [Nat.zero_add]; exact cell_of_row _ _ _ _ _ _ HMR.out.r5)) ?_)
              | (refine wpList_val rfl (ex_load (ty := 40) rfl isAgg_pair (W4.heap.size + 1) 0 rfl ov.cells rfl (PV.load _ HMR.out.r6)) ?_)
              | (refine wpList_val rfl (ex_load (ty := 32) rfl isAgg_page W6.heap.size 0 rfl _ HP2.out (fun j _ => by rw [Nat.zero_add]; exact cell_of_row _ _ _ _ _ _ HMR.out.r9)) ?_)
              | (refine wpList_val rfl (ex_load (ty := 40) rfl isAgg_pair (W6.heap.size + 1) 0 rfl qv.cells rfl (PV.load _ HMR.out.r10)) ?_)
              | (refine wpList_val rfl (ex_build0 rfl) ?_)
              | (refine wpList_neq keyable_page HKN.out HKN.out rfl rfl rfl rfl ?_; intro r hr; obtain rfl := hr.2 rfl))
          clear c70 c71 c72 d110 d111 d112
          refine (rfits_calls x _ HL1.out _).mono ?_
          rintro e W' ⟨rfl, hag⟩
          replace HAG := Lib.hid (HAG.out.trans hag)
          replace HMR := Lib.hid (HMR.out.agrees hag)
          replace HO := Lib.hid (HO.out.agrees hag fun _ _ => trivial)
          replace HQ := Lib.hid (HQ.out.agrees hag fun _ _ => trivial)
          clear hag
          rw [hfit]
          obtain ⟨c70, c71, c72, d110, d111, d112⟩ := HMR.out.tals
          go_wp2_with (first
              | go_skip
              | (refine wpList_val rfl (ex_load (ty := 40) rfl isAgg_pair w.heap.size 0 rfl v.cells rfl (PV.load _ HMR.out.r0)) ?_)
              | (refine wpList_val rfl (ex_load (ty := 48) rfl isAgg_ptr (w.heap.size + 1) 0 rfl x.cells rfl (Ptr.load _ HMR.out.r1)) ?_)
              | (refine wpList_val rfl (ex_load (ty := 32) rfl isAgg_page W4.heap.size 0 rfl _ HP1.out (fun j _ => by rw [Nat.zero_add]; exact cell_of_row _ _ _ _ _ _ HMR.out.r5)) ?_)
              | (refine wpList_val rfl (ex_load (ty := 40) rfl isAgg_pair (W4.heap.size + 1) 0 rfl ov.cells rfl (PV.load _ HMR.out.r6)) ?_)
              | (refine wpList_val rfl (ex_load (ty := 32) rfl isAgg_page W6.heap.size 0 rfl _ HP2.out (fun j _ => by rw [Nat.zero_add]; exact cell_of_row _ _ _ _ _ _ HMR.out.r9)) ?_)
              | (refine wpList_val rfl (ex_load (ty := 40) rfl isAgg_pair (W6.heap.size + 1) 0 rfl qv.cells rfl (PV.load _ HMR.out.r10)) ?_)
              | (refine wpList_val rfl (ex_build0 rfl) ?_)
              | (refine wpList_neq keyable_page HKN.out HKN.out rfl rfl rfl rfl ?_; intro r hr; obtain rfl := hr.2 rfl))
          clear c70 c71 c72 d110 d111 d112
          refine (rfits_calls x _ HL2.out _).mono ?_
          rintro e W' ⟨rfl, hag⟩
          replace HAG := Lib.hid (HAG.out.trans hag)
          replace HMR := Lib.hid (HMR.out.agrees hag)
          replace HO := Lib.hid (HO.out.agrees hag fun _ _ => trivial)
          replace HQ := Lib.hid (HQ.out.agrees hag fun _ _ => trivial)
          clear hag
          rw [hfit2]
          obtain ⟨c70, c71, c72, d110, d111, d112⟩ := HMR.out.tals
          go_wp2_with (first
              | go_skip
              | (refine wpList_val rfl (ex_load (ty := 40) rfl isAgg_pair w.heap.size 0 rfl v.cells rfl (PV.load _ HMR.out.r0)) ?_)
              | (refine wpList_val rfl (ex_load (ty := 48) rfl isAgg_ptr (w.heap.size + 1) 0 rfl x.cells rfl (Ptr.load _ HMR.out.r1)) ?_)
              | (refine wpList_val rfl (ex_load (ty := 32) rfl isAgg_page W4.heap.size 0 rfl _ HP1.out (fun j _ => by rw [Nat.zero_add]; exact cell_of_row _ _ _ _ _ _ HMR.out.r5)) ?_)
              | (refine wpList_val rfl (ex_load (ty := 40) rfl isAgg_pair (W4.heap.size + 1) 0 rfl ov.cells rfl (PV.load _ HMR.out.r6)) ?_)
              | (refine wpList_val rfl (ex_load (ty := 32) rfl isAgg_page W6.heap.size 0 rfl _ HP2.out (fun j _ => by rw [Nat.zero_add]; exact cell_of_row _ _ _ _ _ _ HMR.out.r9)) ?_)
              | (refine wpList_val rfl (ex_load (ty := 40) rfl isAgg_pair (W6.heap.size + 1) 0 rfl qv.cells rfl (PV.load _ HMR.out.r10)) ?_)
              | (refine wpList_val rfl (ex_build0 rfl) ?_)
              | (refine wpList_neq keyable_page HKN.out HKN.out rfl rfl rfl rfl ?_; intro r hr; obtain rfl := hr.2 rfl))
          clear c70 c71 c72 d110 d111 d112
          refine (bad_calls qv OQ x hx _ HQ.out (HQ.out.small HLQ.out)).mono ?_
          rintro e W' ⟨u, rfl, hu, hag⟩
          replace HAG := Lib.hid (HAG.out.trans hag)
          replace HMR := Lib.hid (HMR.out.agrees hag)
          replace HO := Lib.hid (HO.out.agrees hag fun _ _ => trivial)
          replace HQ := Lib.hid (HQ.out.agrees hag fun _ _ => trivial)
          clear hag
          obtain ⟨ua, uc, rfl⟩ := own_slice hu
          clear hu
          rw [HB0.out]
          obtain ⟨c70, c71, c72, d110, d111, d112⟩ := HMR.out.tals
          go_wp2_with (first
              | go_skip
              | (refine wpList_val rfl (ex_load (ty := 40) rfl isAgg_pair w.heap.size 0 rfl v.cells rfl (PV.load _ HMR.out.r0)) ?_)
              | (refine wpList_val rfl (ex_load (ty := 48) rfl isAgg_ptr (w.heap.size + 1) 0 rfl x.cells rfl (Ptr.load _ HMR.out.r1)) ?_)
              | (refine wpList_val rfl (ex_load (ty := 32) rfl isAgg_page W4.heap.size 0 rfl _ HP1.out (fun j _ => by rw [Nat.zero_add]; exact cell_of_row _ _ _ _ _ _ HMR.out.r5)) ?_)
              | (refine wpList_val rfl (ex_load (ty := 40) rfl isAgg_pair (W4.heap.size + 1) 0 rfl ov.cells rfl (PV.load _ HMR.out.r6)) ?_)
              | (refine wpList_val rfl (ex_load (ty := 32) rfl isAgg_page W6.heap.size 0 rfl _ HP2.out (fun j _ => by rw [Nat.zero_add]; exact cell_of_row _ _ _ _ _ _ HMR.out.r9)) ?_)
              | (refine wpList_val rfl (ex_load (ty := 40) rfl isAgg_pair (W6.heap.size + 1) 0 rfl qv.cells rfl (PV.load _ HMR.out.r10)) ?_)
              | (refine wpList_val rfl (ex_build0 rfl) ?_)
              | (refine wpList_neq keyable_page HKN.out HKN.out rfl rfl rfl rfl ?_; intro r hr; obtain rfl := hr.2 rfl))
          clear c70 c71 c72 d110 d111 d112
          refine (wakes_calls _).mono ?_
          rintro e W' ⟨rfl, hag⟩
          replace HAG := Lib.hid (HAG.out.trans hag)
          replace HMR := Lib.hid (HMR.out.agrees hag)
          replace HO := Lib.hid (HO.out.agrees hag fun _ _ => trivial)
          replace HQ := Lib.hid (HQ.out.agrees hag fun _ _ => trivial)
          clear hag
          obtain ⟨c70, c71, c72, d110, d111, d112⟩ := HMR.out.tals
          go_wp2_with (first
              | go_skip
              | (refine wpList_val rfl (ex_load (ty := 40) rfl isAgg_pair w.heap.size 0 rfl v.cells rfl (PV.load _ HMR.out.r0)) ?_)
              | (refine wpList_val rfl (ex_load (ty := 48) rfl isAgg_ptr (w.heap.size + 1) 0 rfl x.cells rfl (Ptr.load _ HMR.out.r1)) ?_)
              | (refine wpList_val rfl (ex_load (ty := 32) rfl isAgg_page W4.heap.size 0 rfl _ HP1.out (fun j _ => by rw [Nat.zero_add]; exact cell_of_row _ _ _ _ _ _ HMR.out.r5)) ?_)
              | (refine wpList_val rfl (ex_load (ty := 40) rfl isAgg_pair (W4.heap.size + 1) 0 rfl ov.cells rfl (PV.load _ HMR.out.r6)) ?_)
              | (refine wpList_val rfl (ex_load (ty := 32) rfl isAgg_page W6.heap.size 0 rfl _ HP2.out (fun j _ => by rw [Nat.zero_add]; exact cell_of_row _ _ _ _ _ _ HMR.out.r9)) ?_)
              | (refine wpList_val rfl (ex_load (ty := 40) rfl isAgg_pair (W6.heap.size + 1) 0 rfl qv.cells rfl (PV.load _ HMR.out.r10)) ?_)
              | (refine wpList_val rfl (ex_build0 rfl) ?_)
              | (refine wpList_neq keyable_page HKN.out HKN.out rfl rfl rfl rfl ?_; intro r hr; obtain rfl := hr.2 rfl))
          clear c70 c71 c72 d110 d111 d112
          go_ret
          exact ⟨rfl, HAG.out⟩
      · obtain ⟨hfit, htr, htm⟩ := HF1.out rfl
        have hwr : IntKind.i64.wrap (tb + 1) = tr := by rw [htr]; exact wrap_small (by have := HBN.out; omega) (by have := HBN.out; omega)
        have hq := HF3.out.2 hf0
        replace htm := htm.symm
        subst htm hq
        have hfe : (fr == 0) = false := by simpa using hf0
        have hfn : (fr != 0) = true := by simpa using hf0
        clear htr hf0
        by_cases hz : nb = 0
        · subst hz
          obtain ⟨hop', hqp⟩ := HF5.out rfl
          have HOP := Lib.hid hop'
          have HQP := Lib.hid hqp
          clear hop' hqp HF1 HF2 HF3 HF5 HF6 HF7
          obtain ⟨c70, c71, c72, d110, d111, d112⟩ := HMR.out.tals
          go_wp2_with (first
              | go_skip
              | (refine wpList_val rfl (ex_load (ty := 40) rfl isAgg_pair w.heap.size 0 rfl v.cells rfl (PV.load _ HMR.out.r0)) ?_)
              | (refine wpList_val rfl (ex_load (ty := 48) rfl isAgg_ptr (w.heap.size + 1) 0 rfl x.cells rfl (Ptr.load _ HMR.out.r1)) ?_)
              | (refine wpList_val rfl (ex_load (ty := 32) rfl isAgg_page W4.heap.size 0 rfl _ HP1.out (fun j _ => by rw [Nat.zero_add]; exact cell_of_row _ _ _ _ _ _ HMR.out.r5)) ?_)
              | (refine wpList_val rfl (ex_load (ty := 40) rfl isAgg_pair (W4.heap.size + 1) 0 rfl ov.cells rfl (PV.load _ HMR.out.r6)) ?_)
              | (refine wpList_val rfl (ex_load (ty := 32) rfl isAgg_page W6.heap.size 0 rfl _ HP2.out (fun j _ => by rw [Nat.zero_add]; exact cell_of_row _ _ _ _ _ _ HMR.out.r9)) ?_)
              | (refine wpList_val rfl (ex_load (ty := 40) rfl isAgg_pair (W6.heap.size + 1) 0 rfl qv.cells rfl (PV.load _ HMR.out.r10)) ?_)
              | (refine wpList_val rfl (ex_build0 rfl) ?_)
              | (refine wpList_neq keyable_page HKN.out HKN.out rfl rfl rfl rfl ?_; intro r hr; obtain rfl := hr.2 rfl))
          clear c70 c71 c72 d110 d111 d112
          refine (rfits_calls x _ HL1.out _).mono ?_
          rintro e W' ⟨rfl, hag⟩
          replace HAG := Lib.hid (HAG.out.trans hag)
          replace HMR := Lib.hid (HMR.out.agrees hag)
          replace HO := Lib.hid (HO.out.agrees hag fun _ _ => trivial)
          replace HQ := Lib.hid (HQ.out.agrees hag fun _ _ => trivial)
          clear hag
          rw [hfit]
          obtain ⟨c70, c71, c72, d110, d111, d112⟩ := HMR.out.tals
          go_wp2_with (first
              | go_skip
              | (refine wpList_val rfl (ex_load (ty := 40) rfl isAgg_pair w.heap.size 0 rfl v.cells rfl (PV.load _ HMR.out.r0)) ?_)
              | (refine wpList_val rfl (ex_load (ty := 48) rfl isAgg_ptr (w.heap.size + 1) 0 rfl x.cells rfl (Ptr.load _ HMR.out.r1)) ?_)
              | (refine wpList_val rfl (ex_load (ty := 32) rfl isAgg_page W4.heap.size 0 rfl _ HP1.out (fun j _ => by rw [Nat.zero_add]; exact cell_of_row _ _ _ _ _ _ HMR.out.r5)) ?_)
              | (refine wpList_val rfl (ex_load (ty := 40) rfl isAgg_pair (W4.heap.size + 1) 0 rfl ov.cells rfl (PV.load _ HMR.out.r6)) ?_)
              | (refine wpList_val rfl (ex_load (ty := 32) rfl isAgg_page W6.heap.size 0 rfl _ HP2.out (fun j _ => by rw [Nat.zero_add]; exact cell_of_row _ _ _ _ _ _ HMR.out.r9)) ?_)
              | (refine wpList_val rfl (ex_load (ty := 40) rfl isAgg_pair (W6.heap.size + 1) 0 rfl qv.cells rfl (PV.load _ HMR.out.r10)) ?_)
              | (refine wpList_val rfl (ex_build0 rfl) ?_)
              | (refine wpList_neq keyable_page HKN.out HKN.out rfl rfl rfl rfl ?_; intro r hr; obtain rfl := hr.2 rfl))
          clear c70 c71 c72 d110 d111 d112
          refine (same_calls ov v P _ (by have := HO.out; rwa [HOP.out] at this) (HV.out.agrees HAG.out fun _ h => h)).mono ?_
          rintro e W' ⟨rfl, hag⟩
          replace HAG := Lib.hid (HAG.out.trans hag)
          replace HMR := Lib.hid (HMR.out.agrees hag)
          replace HO := Lib.hid (HO.out.agrees hag fun _ _ => trivial)
          replace HQ := Lib.hid (HQ.out.agrees hag fun _ _ => trivial)
          clear hag
          obtain ⟨c70, c71, c72, d110, d111, d112⟩ := HMR.out.tals
          go_wp2_with (first
              | go_skip
              | (refine wpList_val rfl (ex_load (ty := 40) rfl isAgg_pair w.heap.size 0 rfl v.cells rfl (PV.load _ HMR.out.r0)) ?_)
              | (refine wpList_val rfl (ex_load (ty := 48) rfl isAgg_ptr (w.heap.size + 1) 0 rfl x.cells rfl (Ptr.load _ HMR.out.r1)) ?_)
              | (refine wpList_val rfl (ex_load (ty := 32) rfl isAgg_page W4.heap.size 0 rfl _ HP1.out (fun j _ => by rw [Nat.zero_add]; exact cell_of_row _ _ _ _ _ _ HMR.out.r5)) ?_)
              | (refine wpList_val rfl (ex_load (ty := 40) rfl isAgg_pair (W4.heap.size + 1) 0 rfl ov.cells rfl (PV.load _ HMR.out.r6)) ?_)
              | (refine wpList_val rfl (ex_load (ty := 32) rfl isAgg_page W6.heap.size 0 rfl _ HP2.out (fun j _ => by rw [Nat.zero_add]; exact cell_of_row _ _ _ _ _ _ HMR.out.r9)) ?_)
              | (refine wpList_val rfl (ex_load (ty := 40) rfl isAgg_pair (W6.heap.size + 1) 0 rfl qv.cells rfl (PV.load _ HMR.out.r10)) ?_)
              | (refine wpList_val rfl (ex_build0 rfl) ?_)
              | (refine wpList_neq keyable_page HKN.out HKN.out rfl rfl rfl rfl ?_; intro r hr; obtain rfl := hr.2 rfl))
          clear c70 c71 c72 d110 d111 d112
          refine (same_calls qv v P _ (by have := HQ.out; rwa [HQP.out] at this) (HV.out.agrees HAG.out fun _ h => h)).mono ?_
          rintro e W' ⟨rfl, hag⟩
          replace HAG := Lib.hid (HAG.out.trans hag)
          replace HMR := Lib.hid (HMR.out.agrees hag)
          replace HO := Lib.hid (HO.out.agrees hag fun _ _ => trivial)
          replace HQ := Lib.hid (HQ.out.agrees hag fun _ _ => trivial)
          clear hag
          obtain ⟨c70, c71, c72, d110, d111, d112⟩ := HMR.out.tals
          go_wp2_with (first
              | go_skip
              | (refine wpList_val rfl (ex_load (ty := 40) rfl isAgg_pair w.heap.size 0 rfl v.cells rfl (PV.load _ HMR.out.r0)) ?_)
              | (refine wpList_val rfl (ex_load (ty := 48) rfl isAgg_ptr (w.heap.size + 1) 0 rfl x.cells rfl (Ptr.load _ HMR.out.r1)) ?_)
              | (refine wpList_val rfl (ex_load (ty := 32) rfl isAgg_page W4.heap.size 0 rfl _ HP1.out (fun j _ => by rw [Nat.zero_add]; exact cell_of_row _ _ _ _ _ _ HMR.out.r5)) ?_)
              | (refine wpList_val rfl (ex_load (ty := 40) rfl isAgg_pair (W4.heap.size + 1) 0 rfl ov.cells rfl (PV.load _ HMR.out.r6)) ?_)
              | (refine wpList_val rfl (ex_load (ty := 32) rfl isAgg_page W6.heap.size 0 rfl _ HP2.out (fun j _ => by rw [Nat.zero_add]; exact cell_of_row _ _ _ _ _ _ HMR.out.r9)) ?_)
              | (refine wpList_val rfl (ex_load (ty := 40) rfl isAgg_pair (W6.heap.size + 1) 0 rfl qv.cells rfl (PV.load _ HMR.out.r10)) ?_)
              | (refine wpList_val rfl (ex_build0 rfl) ?_)
              | (refine wpList_neq keyable_page HKN.out HKN.out rfl rfl rfl rfl ?_; intro r hr; obtain rfl := hr.2 rfl))
          clear c70 c71 c72 d110 d111 d112
          refine (wakes_calls _).mono ?_
          rintro e W' ⟨rfl, hag⟩
          replace HAG := Lib.hid (HAG.out.trans hag)
          replace HMR := Lib.hid (HMR.out.agrees hag)
          replace HO := Lib.hid (HO.out.agrees hag fun _ _ => trivial)
          replace HQ := Lib.hid (HQ.out.agrees hag fun _ _ => trivial)
          clear hag
          obtain ⟨c70, c71, c72, d110, d111, d112⟩ := HMR.out.tals
          go_wp2_with (first
              | go_skip
              | (refine wpList_val rfl (ex_load (ty := 40) rfl isAgg_pair w.heap.size 0 rfl v.cells rfl (PV.load _ HMR.out.r0)) ?_)
              | (refine wpList_val rfl (ex_load (ty := 48) rfl isAgg_ptr (w.heap.size + 1) 0 rfl x.cells rfl (Ptr.load _ HMR.out.r1)) ?_)
              | (refine wpList_val rfl (ex_load (ty := 32) rfl isAgg_page W4.heap.size 0 rfl _ HP1.out (fun j _ => by rw [Nat.zero_add]; exact cell_of_row _ _ _ _ _ _ HMR.out.r5)) ?_)
              | (refine wpList_val rfl (ex_load (ty := 40) rfl isAgg_pair (W4.heap.size + 1) 0 rfl ov.cells rfl (PV.load _ HMR.out.r6)) ?_)
              | (refine wpList_val rfl (ex_load (ty := 32) rfl isAgg_page W6.heap.size 0 rfl _ HP2.out (fun j _ => by rw [Nat.zero_add]; exact cell_of_row _ _ _ _ _ _ HMR.out.r9)) ?_)
              | (refine wpList_val rfl (ex_load (ty := 40) rfl isAgg_pair (W6.heap.size + 1) 0 rfl qv.cells rfl (PV.load _ HMR.out.r10)) ?_)
              | (refine wpList_val rfl (ex_build0 rfl) ?_)
              | (refine wpList_neq keyable_page HKN.out HKN.out rfl rfl rfl rfl ?_; intro r hr; obtain rfl := hr.2 rfl))
          clear c70 c71 c72 d110 d111 d112
          go_ret
          exact ⟨rfl, HAG.out⟩
        · have hnz : (nb == 0) = false := by simpa using hz
          clear HF1 HF2 HF3 HF5 HF6 HF7 hz
          obtain ⟨c70, c71, c72, d110, d111, d112⟩ := HMR.out.tals
          go_wp2_with (first
              | go_skip
              | (refine wpList_val rfl (ex_load (ty := 40) rfl isAgg_pair w.heap.size 0 rfl v.cells rfl (PV.load _ HMR.out.r0)) ?_)
              | (refine wpList_val rfl (ex_load (ty := 48) rfl isAgg_ptr (w.heap.size + 1) 0 rfl x.cells rfl (Ptr.load _ HMR.out.r1)) ?_)
              | (refine wpList_val rfl (ex_load (ty := 32) rfl isAgg_page W4.heap.size 0 rfl _ HP1.out (fun j _ => by rw [Nat.zero_add]; exact cell_of_row _ _ _ _ _ _ HMR.out.r5)) ?_)
              | (refine wpList_val rfl (ex_load (ty := 40) rfl isAgg_pair (W4.heap.size + 1) 0 rfl ov.cells rfl (PV.load _ HMR.out.r6)) ?_)
              | (refine wpList_val rfl (ex_load (ty := 32) rfl isAgg_page W6.heap.size 0 rfl _ HP2.out (fun j _ => by rw [Nat.zero_add]; exact cell_of_row _ _ _ _ _ _ HMR.out.r9)) ?_)
              | (refine wpList_val rfl (ex_load (ty := 40) rfl isAgg_pair (W6.heap.size + 1) 0 rfl qv.cells rfl (PV.load _ HMR.out.r10)) ?_)
              | (refine wpList_val rfl (ex_build0 rfl) ?_)
              | (refine wpList_neq keyable_page HKN.out HKN.out rfl rfl rfl rfl ?_; intro r hr; obtain rfl := hr.2 rfl))
          clear c70 c71 c72 d110 d111 d112
          refine (rfits_calls x _ HL1.out _).mono ?_
          rintro e W' ⟨rfl, hag⟩
          replace HAG := Lib.hid (HAG.out.trans hag)
          replace HMR := Lib.hid (HMR.out.agrees hag)
          replace HO := Lib.hid (HO.out.agrees hag fun _ _ => trivial)
          replace HQ := Lib.hid (HQ.out.agrees hag fun _ _ => trivial)
          clear hag
          rw [hfit]
          obtain ⟨c70, c71, c72, d110, d111, d112⟩ := HMR.out.tals
          go_wp2_with (first
              | go_skip
              | (refine wpList_val rfl (ex_load (ty := 40) rfl isAgg_pair w.heap.size 0 rfl v.cells rfl (PV.load _ HMR.out.r0)) ?_)
              | (refine wpList_val rfl (ex_load (ty := 48) rfl isAgg_ptr (w.heap.size + 1) 0 rfl x.cells rfl (Ptr.load _ HMR.out.r1)) ?_)
              | (refine wpList_val rfl (ex_load (ty := 32) rfl isAgg_page W4.heap.size 0 rfl _ HP1.out (fun j _ => by rw [Nat.zero_add]; exact cell_of_row _ _ _ _ _ _ HMR.out.r5)) ?_)
              | (refine wpList_val rfl (ex_load (ty := 40) rfl isAgg_pair (W4.heap.size + 1) 0 rfl ov.cells rfl (PV.load _ HMR.out.r6)) ?_)
              | (refine wpList_val rfl (ex_load (ty := 32) rfl isAgg_page W6.heap.size 0 rfl _ HP2.out (fun j _ => by rw [Nat.zero_add]; exact cell_of_row _ _ _ _ _ _ HMR.out.r9)) ?_)
              | (refine wpList_val rfl (ex_load (ty := 40) rfl isAgg_pair (W6.heap.size + 1) 0 rfl qv.cells rfl (PV.load _ HMR.out.r10)) ?_)
              | (refine wpList_val rfl (ex_build0 rfl) ?_)
              | (refine wpList_neq keyable_page HKN.out HKN.out rfl rfl rfl rfl ?_; intro r hr; obtain rfl := hr.2 rfl))
          clear c70 c71 c72 d110 d111 d112
          refine (wakes_calls _).mono ?_
          rintro e W' ⟨rfl, hag⟩
          replace HAG := Lib.hid (HAG.out.trans hag)
          replace HMR := Lib.hid (HMR.out.agrees hag)
          replace HO := Lib.hid (HO.out.agrees hag fun _ _ => trivial)
          replace HQ := Lib.hid (HQ.out.agrees hag fun _ _ => trivial)
          clear hag
          obtain ⟨c70, c71, c72, d110, d111, d112⟩ := HMR.out.tals
          go_wp2_with (first
              | go_skip
              | (refine wpList_val rfl (ex_load (ty := 40) rfl isAgg_pair w.heap.size 0 rfl v.cells rfl (PV.load _ HMR.out.r0)) ?_)
              | (refine wpList_val rfl (ex_load (ty := 48) rfl isAgg_ptr (w.heap.size + 1) 0 rfl x.cells rfl (Ptr.load _ HMR.out.r1)) ?_)
              | (refine wpList_val rfl (ex_load (ty := 32) rfl isAgg_page W4.heap.size 0 rfl _ HP1.out (fun j _ => by rw [Nat.zero_add]; exact cell_of_row _ _ _ _ _ _ HMR.out.r5)) ?_)
              | (refine wpList_val rfl (ex_load (ty := 40) rfl isAgg_pair (W4.heap.size + 1) 0 rfl ov.cells rfl (PV.load _ HMR.out.r6)) ?_)
              | (refine wpList_val rfl (ex_load (ty := 32) rfl isAgg_page W6.heap.size 0 rfl _ HP2.out (fun j _ => by rw [Nat.zero_add]; exact cell_of_row _ _ _ _ _ _ HMR.out.r9)) ?_)
              | (refine wpList_val rfl (ex_load (ty := 40) rfl isAgg_pair (W6.heap.size + 1) 0 rfl qv.cells rfl (PV.load _ HMR.out.r10)) ?_)
              | (refine wpList_val rfl (ex_build0 rfl) ?_)
              | (refine wpList_neq keyable_page HKN.out HKN.out rfl rfl rfl rfl ?_; intro r hr; obtain rfl := hr.2 rfl))
          clear c70 c71 c72 d110 d111 d112
          go_ret
          exact ⟨rfl, HAG.out⟩
    · by_cases he50 : er = 50
      · subst he50
        clear he0
        obtain ⟨hf50, hub, hop⟩ := HF6.out rfl
        have hq := HF3.out.2 (by rw [hf50]; decide)
        have hq1 := HF3.out.1 (by decide)
        subst hf50 hub hq hq1
        have HOP := Lib.hid hop
        clear hop
        by_cases hz : nb = 0
        · subst hz
          obtain ⟨hop', hqp⟩ := HF5.out rfl
          have HOP := Lib.hid hop'
          have HQP := Lib.hid hqp
          clear hop' hqp HF1 HF2 HF3 HF5 HF6 HF7
          obtain ⟨c70, c71, c72, d110, d111, d112⟩ := HMR.out.tals
          go_wp2_with (first
              | go_skip
              | (refine wpList_val rfl (ex_load (ty := 40) rfl isAgg_pair w.heap.size 0 rfl v.cells rfl (PV.load _ HMR.out.r0)) ?_)
              | (refine wpList_val rfl (ex_load (ty := 48) rfl isAgg_ptr (w.heap.size + 1) 0 rfl x.cells rfl (Ptr.load _ HMR.out.r1)) ?_)
              | (refine wpList_val rfl (ex_load (ty := 32) rfl isAgg_page W4.heap.size 0 rfl _ HP1.out (fun j _ => by rw [Nat.zero_add]; exact cell_of_row _ _ _ _ _ _ HMR.out.r5)) ?_)
              | (refine wpList_val rfl (ex_load (ty := 40) rfl isAgg_pair (W4.heap.size + 1) 0 rfl ov.cells rfl (PV.load _ HMR.out.r6)) ?_)
              | (refine wpList_val rfl (ex_load (ty := 32) rfl isAgg_page W6.heap.size 0 rfl _ HP2.out (fun j _ => by rw [Nat.zero_add]; exact cell_of_row _ _ _ _ _ _ HMR.out.r9)) ?_)
              | (refine wpList_val rfl (ex_load (ty := 40) rfl isAgg_pair (W6.heap.size + 1) 0 rfl qv.cells rfl (PV.load _ HMR.out.r10)) ?_)
              | (refine wpList_val rfl (ex_build0 rfl) ?_)
              | (refine wpList_neq keyable_page HKN.out HKN.out rfl rfl rfl rfl ?_; intro r hr; obtain rfl := hr.2 rfl))
          clear c70 c71 c72 d110 d111 d112
          refine (same_calls ov v P _ (by have := HO.out; rwa [HOP.out] at this) (HV.out.agrees HAG.out fun _ h => h)).mono ?_
          rintro e W' ⟨rfl, hag⟩
          replace HAG := Lib.hid (HAG.out.trans hag)
          replace HMR := Lib.hid (HMR.out.agrees hag)
          replace HO := Lib.hid (HO.out.agrees hag fun _ _ => trivial)
          replace HQ := Lib.hid (HQ.out.agrees hag fun _ _ => trivial)
          clear hag
          obtain ⟨c70, c71, c72, d110, d111, d112⟩ := HMR.out.tals
          go_wp2_with (first
              | go_skip
              | (refine wpList_val rfl (ex_load (ty := 40) rfl isAgg_pair w.heap.size 0 rfl v.cells rfl (PV.load _ HMR.out.r0)) ?_)
              | (refine wpList_val rfl (ex_load (ty := 48) rfl isAgg_ptr (w.heap.size + 1) 0 rfl x.cells rfl (Ptr.load _ HMR.out.r1)) ?_)
              | (refine wpList_val rfl (ex_load (ty := 32) rfl isAgg_page W4.heap.size 0 rfl _ HP1.out (fun j _ => by rw [Nat.zero_add]; exact cell_of_row _ _ _ _ _ _ HMR.out.r5)) ?_)
              | (refine wpList_val rfl (ex_load (ty := 40) rfl isAgg_pair (W4.heap.size + 1) 0 rfl ov.cells rfl (PV.load _ HMR.out.r6)) ?_)
              | (refine wpList_val rfl (ex_load (ty := 32) rfl isAgg_page W6.heap.size 0 rfl _ HP2.out (fun j _ => by rw [Nat.zero_add]; exact cell_of_row _ _ _ _ _ _ HMR.out.r9)) ?_)
              | (refine wpList_val rfl (ex_load (ty := 40) rfl isAgg_pair (W6.heap.size + 1) 0 rfl qv.cells rfl (PV.load _ HMR.out.r10)) ?_)
              | (refine wpList_val rfl (ex_build0 rfl) ?_)
              | (refine wpList_neq keyable_page HKN.out HKN.out rfl rfl rfl rfl ?_; intro r hr; obtain rfl := hr.2 rfl))
          clear c70 c71 c72 d110 d111 d112
          refine (same_calls qv v P _ (by have := HQ.out; rwa [HQP.out] at this) (HV.out.agrees HAG.out fun _ h => h)).mono ?_
          rintro e W' ⟨rfl, hag⟩
          replace HAG := Lib.hid (HAG.out.trans hag)
          replace HMR := Lib.hid (HMR.out.agrees hag)
          replace HO := Lib.hid (HO.out.agrees hag fun _ _ => trivial)
          replace HQ := Lib.hid (HQ.out.agrees hag fun _ _ => trivial)
          clear hag
          obtain ⟨c70, c71, c72, d110, d111, d112⟩ := HMR.out.tals
          go_wp2_with (first
              | go_skip
              | (refine wpList_val rfl (ex_load (ty := 40) rfl isAgg_pair w.heap.size 0 rfl v.cells rfl (PV.load _ HMR.out.r0)) ?_)
              | (refine wpList_val rfl (ex_load (ty := 48) rfl isAgg_ptr (w.heap.size + 1) 0 rfl x.cells rfl (Ptr.load _ HMR.out.r1)) ?_)
              | (refine wpList_val rfl (ex_load (ty := 32) rfl isAgg_page W4.heap.size 0 rfl _ HP1.out (fun j _ => by rw [Nat.zero_add]; exact cell_of_row _ _ _ _ _ _ HMR.out.r5)) ?_)
              | (refine wpList_val rfl (ex_load (ty := 40) rfl isAgg_pair (W4.heap.size + 1) 0 rfl ov.cells rfl (PV.load _ HMR.out.r6)) ?_)
              | (refine wpList_val rfl (ex_load (ty := 32) rfl isAgg_page W6.heap.size 0 rfl _ HP2.out (fun j _ => by rw [Nat.zero_add]; exact cell_of_row _ _ _ _ _ _ HMR.out.r9)) ?_)
              | (refine wpList_val rfl (ex_load (ty := 40) rfl isAgg_pair (W6.heap.size + 1) 0 rfl qv.cells rfl (PV.load _ HMR.out.r10)) ?_)
              | (refine wpList_val rfl (ex_build0 rfl) ?_)
              | (refine wpList_neq keyable_page HKN.out HKN.out rfl rfl rfl rfl ?_; intro r hr; obtain rfl := hr.2 rfl))
          clear c70 c71 c72 d110 d111 d112
          refine (same_calls ov v P _ (by have := HO.out; rwa [HOP.out] at this) (HV.out.agrees HAG.out fun _ h => h)).mono ?_
          rintro e W' ⟨rfl, hag⟩
          replace HAG := Lib.hid (HAG.out.trans hag)
          replace HMR := Lib.hid (HMR.out.agrees hag)
          replace HO := Lib.hid (HO.out.agrees hag fun _ _ => trivial)
          replace HQ := Lib.hid (HQ.out.agrees hag fun _ _ => trivial)
          clear hag
          obtain ⟨c70, c71, c72, d110, d111, d112⟩ := HMR.out.tals
          go_wp2_with (first
              | go_skip
              | (refine wpList_val rfl (ex_load (ty := 40) rfl isAgg_pair w.heap.size 0 rfl v.cells rfl (PV.load _ HMR.out.r0)) ?_)
              | (refine wpList_val rfl (ex_load (ty := 48) rfl isAgg_ptr (w.heap.size + 1) 0 rfl x.cells rfl (Ptr.load _ HMR.out.r1)) ?_)
              | (refine wpList_val rfl (ex_load (ty := 32) rfl isAgg_page W4.heap.size 0 rfl _ HP1.out (fun j _ => by rw [Nat.zero_add]; exact cell_of_row _ _ _ _ _ _ HMR.out.r5)) ?_)
              | (refine wpList_val rfl (ex_load (ty := 40) rfl isAgg_pair (W4.heap.size + 1) 0 rfl ov.cells rfl (PV.load _ HMR.out.r6)) ?_)
              | (refine wpList_val rfl (ex_load (ty := 32) rfl isAgg_page W6.heap.size 0 rfl _ HP2.out (fun j _ => by rw [Nat.zero_add]; exact cell_of_row _ _ _ _ _ _ HMR.out.r9)) ?_)
              | (refine wpList_val rfl (ex_load (ty := 40) rfl isAgg_pair (W6.heap.size + 1) 0 rfl qv.cells rfl (PV.load _ HMR.out.r10)) ?_)
              | (refine wpList_val rfl (ex_build0 rfl) ?_)
              | (refine wpList_neq keyable_page HKN.out HKN.out rfl rfl rfl rfl ?_; intro r hr; obtain rfl := hr.2 rfl))
          clear c70 c71 c72 d110 d111 d112
          refine (wakes_calls _).mono ?_
          rintro e W' ⟨rfl, hag⟩
          replace HAG := Lib.hid (HAG.out.trans hag)
          replace HMR := Lib.hid (HMR.out.agrees hag)
          replace HO := Lib.hid (HO.out.agrees hag fun _ _ => trivial)
          replace HQ := Lib.hid (HQ.out.agrees hag fun _ _ => trivial)
          clear hag
          obtain ⟨c70, c71, c72, d110, d111, d112⟩ := HMR.out.tals
          go_wp2_with (first
              | go_skip
              | (refine wpList_val rfl (ex_load (ty := 40) rfl isAgg_pair w.heap.size 0 rfl v.cells rfl (PV.load _ HMR.out.r0)) ?_)
              | (refine wpList_val rfl (ex_load (ty := 48) rfl isAgg_ptr (w.heap.size + 1) 0 rfl x.cells rfl (Ptr.load _ HMR.out.r1)) ?_)
              | (refine wpList_val rfl (ex_load (ty := 32) rfl isAgg_page W4.heap.size 0 rfl _ HP1.out (fun j _ => by rw [Nat.zero_add]; exact cell_of_row _ _ _ _ _ _ HMR.out.r5)) ?_)
              | (refine wpList_val rfl (ex_load (ty := 40) rfl isAgg_pair (W4.heap.size + 1) 0 rfl ov.cells rfl (PV.load _ HMR.out.r6)) ?_)
              | (refine wpList_val rfl (ex_load (ty := 32) rfl isAgg_page W6.heap.size 0 rfl _ HP2.out (fun j _ => by rw [Nat.zero_add]; exact cell_of_row _ _ _ _ _ _ HMR.out.r9)) ?_)
              | (refine wpList_val rfl (ex_load (ty := 40) rfl isAgg_pair (W6.heap.size + 1) 0 rfl qv.cells rfl (PV.load _ HMR.out.r10)) ?_)
              | (refine wpList_val rfl (ex_build0 rfl) ?_)
              | (refine wpList_neq keyable_page HKN.out HKN.out rfl rfl rfl rfl ?_; intro r hr; obtain rfl := hr.2 rfl))
          clear c70 c71 c72 d110 d111 d112
          go_ret
          exact ⟨rfl, HAG.out⟩
        · have hnz : (nb == 0) = false := by simpa using hz
          clear HF1 HF2 HF3 HF5 HF6 HF7 hz
          obtain ⟨c70, c71, c72, d110, d111, d112⟩ := HMR.out.tals
          go_wp2_with (first
              | go_skip
              | (refine wpList_val rfl (ex_load (ty := 40) rfl isAgg_pair w.heap.size 0 rfl v.cells rfl (PV.load _ HMR.out.r0)) ?_)
              | (refine wpList_val rfl (ex_load (ty := 48) rfl isAgg_ptr (w.heap.size + 1) 0 rfl x.cells rfl (Ptr.load _ HMR.out.r1)) ?_)
              | (refine wpList_val rfl (ex_load (ty := 32) rfl isAgg_page W4.heap.size 0 rfl _ HP1.out (fun j _ => by rw [Nat.zero_add]; exact cell_of_row _ _ _ _ _ _ HMR.out.r5)) ?_)
              | (refine wpList_val rfl (ex_load (ty := 40) rfl isAgg_pair (W4.heap.size + 1) 0 rfl ov.cells rfl (PV.load _ HMR.out.r6)) ?_)
              | (refine wpList_val rfl (ex_load (ty := 32) rfl isAgg_page W6.heap.size 0 rfl _ HP2.out (fun j _ => by rw [Nat.zero_add]; exact cell_of_row _ _ _ _ _ _ HMR.out.r9)) ?_)
              | (refine wpList_val rfl (ex_load (ty := 40) rfl isAgg_pair (W6.heap.size + 1) 0 rfl qv.cells rfl (PV.load _ HMR.out.r10)) ?_)
              | (refine wpList_val rfl (ex_build0 rfl) ?_)
              | (refine wpList_neq keyable_page HKN.out HKN.out rfl rfl rfl rfl ?_; intro r hr; obtain rfl := hr.2 rfl))
          clear c70 c71 c72 d110 d111 d112
          refine (same_calls ov v P _ (by have := HO.out; rwa [HOP.out] at this) (HV.out.agrees HAG.out fun _ h => h)).mono ?_
          rintro e W' ⟨rfl, hag⟩
          replace HAG := Lib.hid (HAG.out.trans hag)
          replace HMR := Lib.hid (HMR.out.agrees hag)
          replace HO := Lib.hid (HO.out.agrees hag fun _ _ => trivial)
          replace HQ := Lib.hid (HQ.out.agrees hag fun _ _ => trivial)
          clear hag
          obtain ⟨c70, c71, c72, d110, d111, d112⟩ := HMR.out.tals
          go_wp2_with (first
              | go_skip
              | (refine wpList_val rfl (ex_load (ty := 40) rfl isAgg_pair w.heap.size 0 rfl v.cells rfl (PV.load _ HMR.out.r0)) ?_)
              | (refine wpList_val rfl (ex_load (ty := 48) rfl isAgg_ptr (w.heap.size + 1) 0 rfl x.cells rfl (Ptr.load _ HMR.out.r1)) ?_)
              | (refine wpList_val rfl (ex_load (ty := 32) rfl isAgg_page W4.heap.size 0 rfl _ HP1.out (fun j _ => by rw [Nat.zero_add]; exact cell_of_row _ _ _ _ _ _ HMR.out.r5)) ?_)
              | (refine wpList_val rfl (ex_load (ty := 40) rfl isAgg_pair (W4.heap.size + 1) 0 rfl ov.cells rfl (PV.load _ HMR.out.r6)) ?_)
              | (refine wpList_val rfl (ex_load (ty := 32) rfl isAgg_page W6.heap.size 0 rfl _ HP2.out (fun j _ => by rw [Nat.zero_add]; exact cell_of_row _ _ _ _ _ _ HMR.out.r9)) ?_)
              | (refine wpList_val rfl (ex_load (ty := 40) rfl isAgg_pair (W6.heap.size + 1) 0 rfl qv.cells rfl (PV.load _ HMR.out.r10)) ?_)
              | (refine wpList_val rfl (ex_build0 rfl) ?_)
              | (refine wpList_neq keyable_page HKN.out HKN.out rfl rfl rfl rfl ?_; intro r hr; obtain rfl := hr.2 rfl))
          clear c70 c71 c72 d110 d111 d112
          refine (wakes_calls _).mono ?_
          rintro e W' ⟨rfl, hag⟩
          replace HAG := Lib.hid (HAG.out.trans hag)
          replace HMR := Lib.hid (HMR.out.agrees hag)
          replace HO := Lib.hid (HO.out.agrees hag fun _ _ => trivial)
          replace HQ := Lib.hid (HQ.out.agrees hag fun _ _ => trivial)
          clear hag
          obtain ⟨c70, c71, c72, d110, d111, d112⟩ := HMR.out.tals
          go_wp2_with (first
              | go_skip
              | (refine wpList_val rfl (ex_load (ty := 40) rfl isAgg_pair w.heap.size 0 rfl v.cells rfl (PV.load _ HMR.out.r0)) ?_)
              | (refine wpList_val rfl (ex_load (ty := 48) rfl isAgg_ptr (w.heap.size + 1) 0 rfl x.cells rfl (Ptr.load _ HMR.out.r1)) ?_)
              | (refine wpList_val rfl (ex_load (ty := 32) rfl isAgg_page W4.heap.size 0 rfl _ HP1.out (fun j _ => by rw [Nat.zero_add]; exact cell_of_row _ _ _ _ _ _ HMR.out.r5)) ?_)
              | (refine wpList_val rfl (ex_load (ty := 40) rfl isAgg_pair (W4.heap.size + 1) 0 rfl ov.cells rfl (PV.load _ HMR.out.r6)) ?_)
              | (refine wpList_val rfl (ex_load (ty := 32) rfl isAgg_page W6.heap.size 0 rfl _ HP2.out (fun j _ => by rw [Nat.zero_add]; exact cell_of_row _ _ _ _ _ _ HMR.out.r9)) ?_)
              | (refine wpList_val rfl (ex_load (ty := 40) rfl isAgg_pair (W6.heap.size + 1) 0 rfl qv.cells rfl (PV.load _ HMR.out.r10)) ?_)
              | (refine wpList_val rfl (ex_build0 rfl) ?_)
              | (refine wpList_neq keyable_page HKN.out HKN.out rfl rfl rfl rfl ?_; intro r hr; obtain rfl := hr.2 rfl))
          clear c70 c71 c72 d110 d111 d112
          go_ret
          exact ⟨rfl, HAG.out⟩
      · have hf0 : fr ≠ 0 := fun h => he0 (HF7.out h)
        have hq := HF3.out.2 hf0
        have hq1 := HF3.out.1 he0
        subst hq hq1
        have hfe : (fr == 0) = false := by simpa using hf0
        have hfn : (fr != 0) = true := by simpa using hf0
        have hee : (er == 0) = false := by simpa using he0
        have hen : (er != 0) = true := by simpa using he0
        have he5 : (er != 50) = true := by simpa using he50
        have he5' : (er == 50) = false := by simpa using he50
        clear hf0 he0 he50
        by_cases hz : nb = 0
        · subst hz
          obtain ⟨hop', hqp⟩ := HF5.out rfl
          have HOP := Lib.hid hop'
          have HQP := Lib.hid hqp
          clear hop' hqp HF1 HF2 HF3 HF5 HF6 HF7
          obtain ⟨c70, c71, c72, d110, d111, d112⟩ := HMR.out.tals
          go_wp2_with (first
              | go_skip
              | (refine wpList_val rfl (ex_load (ty := 40) rfl isAgg_pair w.heap.size 0 rfl v.cells rfl (PV.load _ HMR.out.r0)) ?_)
              | (refine wpList_val rfl (ex_load (ty := 48) rfl isAgg_ptr (w.heap.size + 1) 0 rfl x.cells rfl (Ptr.load _ HMR.out.r1)) ?_)
              | (refine wpList_val rfl (ex_load (ty := 32) rfl isAgg_page W4.heap.size 0 rfl _ HP1.out (fun j _ => by rw [Nat.zero_add]; exact cell_of_row _ _ _ _ _ _ HMR.out.r5)) ?_)
              | (refine wpList_val rfl (ex_load (ty := 40) rfl isAgg_pair (W4.heap.size + 1) 0 rfl ov.cells rfl (PV.load _ HMR.out.r6)) ?_)
              | (refine wpList_val rfl (ex_load (ty := 32) rfl isAgg_page W6.heap.size 0 rfl _ HP2.out (fun j _ => by rw [Nat.zero_add]; exact cell_of_row _ _ _ _ _ _ HMR.out.r9)) ?_)
              | (refine wpList_val rfl (ex_load (ty := 40) rfl isAgg_pair (W6.heap.size + 1) 0 rfl qv.cells rfl (PV.load _ HMR.out.r10)) ?_)
              | (refine wpList_val rfl (ex_build0 rfl) ?_)
              | (refine wpList_neq keyable_page HKN.out HKN.out rfl rfl rfl rfl ?_; intro r hr; obtain rfl := hr.2 rfl))
          clear c70 c71 c72 d110 d111 d112
          refine (same_calls ov v P _ (by have := HO.out; rwa [HOP.out] at this) (HV.out.agrees HAG.out fun _ h => h)).mono ?_
          rintro e W' ⟨rfl, hag⟩
          replace HAG := Lib.hid (HAG.out.trans hag)
          replace HMR := Lib.hid (HMR.out.agrees hag)
          replace HO := Lib.hid (HO.out.agrees hag fun _ _ => trivial)
          replace HQ := Lib.hid (HQ.out.agrees hag fun _ _ => trivial)
          clear hag
          obtain ⟨c70, c71, c72, d110, d111, d112⟩ := HMR.out.tals
          go_wp2_with (first
              | go_skip
              | (refine wpList_val rfl (ex_load (ty := 40) rfl isAgg_pair w.heap.size 0 rfl v.cells rfl (PV.load _ HMR.out.r0)) ?_)
              | (refine wpList_val rfl (ex_load (ty := 48) rfl isAgg_ptr (w.heap.size + 1) 0 rfl x.cells rfl (Ptr.load _ HMR.out.r1)) ?_)
              | (refine wpList_val rfl (ex_load (ty := 32) rfl isAgg_page W4.heap.size 0 rfl _ HP1.out (fun j _ => by rw [Nat.zero_add]; exact cell_of_row _ _ _ _ _ _ HMR.out.r5)) ?_)
              | (refine wpList_val rfl (ex_load (ty := 40) rfl isAgg_pair (W4.heap.size + 1) 0 rfl ov.cells rfl (PV.load _ HMR.out.r6)) ?_)
              | (refine wpList_val rfl (ex_load (ty := 32) rfl isAgg_page W6.heap.size 0 rfl _ HP2.out (fun j _ => by rw [Nat.zero_add]; exact cell_of_row _ _ _ _ _ _ HMR.out.r9)) ?_)
              | (refine wpList_val rfl (ex_load (ty := 40) rfl isAgg_pair (W6.heap.size + 1) 0 rfl qv.cells rfl (PV.load _ HMR.out.r10)) ?_)
              | (refine wpList_val rfl (ex_build0 rfl) ?_)
              | (refine wpList_neq keyable_page HKN.out HKN.out rfl rfl rfl rfl ?_; intro r hr; obtain rfl := hr.2 rfl))
          clear c70 c71 c72 d110 d111 d112
          refine (same_calls qv v P _ (by have := HQ.out; rwa [HQP.out] at this) (HV.out.agrees HAG.out fun _ h => h)).mono ?_
          rintro e W' ⟨rfl, hag⟩
          replace HAG := Lib.hid (HAG.out.trans hag)
          replace HMR := Lib.hid (HMR.out.agrees hag)
          replace HO := Lib.hid (HO.out.agrees hag fun _ _ => trivial)
          replace HQ := Lib.hid (HQ.out.agrees hag fun _ _ => trivial)
          clear hag
          obtain ⟨c70, c71, c72, d110, d111, d112⟩ := HMR.out.tals
          go_wp2_with (first
              | go_skip
              | (refine wpList_val rfl (ex_load (ty := 40) rfl isAgg_pair w.heap.size 0 rfl v.cells rfl (PV.load _ HMR.out.r0)) ?_)
              | (refine wpList_val rfl (ex_load (ty := 48) rfl isAgg_ptr (w.heap.size + 1) 0 rfl x.cells rfl (Ptr.load _ HMR.out.r1)) ?_)
              | (refine wpList_val rfl (ex_load (ty := 32) rfl isAgg_page W4.heap.size 0 rfl _ HP1.out (fun j _ => by rw [Nat.zero_add]; exact cell_of_row _ _ _ _ _ _ HMR.out.r5)) ?_)
              | (refine wpList_val rfl (ex_load (ty := 40) rfl isAgg_pair (W4.heap.size + 1) 0 rfl ov.cells rfl (PV.load _ HMR.out.r6)) ?_)
              | (refine wpList_val rfl (ex_load (ty := 32) rfl isAgg_page W6.heap.size 0 rfl _ HP2.out (fun j _ => by rw [Nat.zero_add]; exact cell_of_row _ _ _ _ _ _ HMR.out.r9)) ?_)
              | (refine wpList_val rfl (ex_load (ty := 40) rfl isAgg_pair (W6.heap.size + 1) 0 rfl qv.cells rfl (PV.load _ HMR.out.r10)) ?_)
              | (refine wpList_val rfl (ex_build0 rfl) ?_)
              | (refine wpList_neq keyable_page HKN.out HKN.out rfl rfl rfl rfl ?_; intro r hr; obtain rfl := hr.2 rfl))
          clear c70 c71 c72 d110 d111 d112
          refine (wakes_calls _).mono ?_
          rintro e W' ⟨rfl, hag⟩
          replace HAG := Lib.hid (HAG.out.trans hag)
          replace HMR := Lib.hid (HMR.out.agrees hag)
          replace HO := Lib.hid (HO.out.agrees hag fun _ _ => trivial)
          replace HQ := Lib.hid (HQ.out.agrees hag fun _ _ => trivial)
          clear hag
          obtain ⟨c70, c71, c72, d110, d111, d112⟩ := HMR.out.tals
          go_wp2_with (first
              | go_skip
              | (refine wpList_val rfl (ex_load (ty := 40) rfl isAgg_pair w.heap.size 0 rfl v.cells rfl (PV.load _ HMR.out.r0)) ?_)
              | (refine wpList_val rfl (ex_load (ty := 48) rfl isAgg_ptr (w.heap.size + 1) 0 rfl x.cells rfl (Ptr.load _ HMR.out.r1)) ?_)
              | (refine wpList_val rfl (ex_load (ty := 32) rfl isAgg_page W4.heap.size 0 rfl _ HP1.out (fun j _ => by rw [Nat.zero_add]; exact cell_of_row _ _ _ _ _ _ HMR.out.r5)) ?_)
              | (refine wpList_val rfl (ex_load (ty := 40) rfl isAgg_pair (W4.heap.size + 1) 0 rfl ov.cells rfl (PV.load _ HMR.out.r6)) ?_)
              | (refine wpList_val rfl (ex_load (ty := 32) rfl isAgg_page W6.heap.size 0 rfl _ HP2.out (fun j _ => by rw [Nat.zero_add]; exact cell_of_row _ _ _ _ _ _ HMR.out.r9)) ?_)
              | (refine wpList_val rfl (ex_load (ty := 40) rfl isAgg_pair (W6.heap.size + 1) 0 rfl qv.cells rfl (PV.load _ HMR.out.r10)) ?_)
              | (refine wpList_val rfl (ex_build0 rfl) ?_)
              | (refine wpList_neq keyable_page HKN.out HKN.out rfl rfl rfl rfl ?_; intro r hr; obtain rfl := hr.2 rfl))
          clear c70 c71 c72 d110 d111 d112
          go_ret
          exact ⟨rfl, HAG.out⟩
        · have hnz : (nb == 0) = false := by simpa using hz
          clear HF1 HF2 HF3 HF5 HF6 HF7 hz
          obtain ⟨c70, c71, c72, d110, d111, d112⟩ := HMR.out.tals
          go_wp2_with (first
              | go_skip
              | (refine wpList_val rfl (ex_load (ty := 40) rfl isAgg_pair w.heap.size 0 rfl v.cells rfl (PV.load _ HMR.out.r0)) ?_)
              | (refine wpList_val rfl (ex_load (ty := 48) rfl isAgg_ptr (w.heap.size + 1) 0 rfl x.cells rfl (Ptr.load _ HMR.out.r1)) ?_)
              | (refine wpList_val rfl (ex_load (ty := 32) rfl isAgg_page W4.heap.size 0 rfl _ HP1.out (fun j _ => by rw [Nat.zero_add]; exact cell_of_row _ _ _ _ _ _ HMR.out.r5)) ?_)
              | (refine wpList_val rfl (ex_load (ty := 40) rfl isAgg_pair (W4.heap.size + 1) 0 rfl ov.cells rfl (PV.load _ HMR.out.r6)) ?_)
              | (refine wpList_val rfl (ex_load (ty := 32) rfl isAgg_page W6.heap.size 0 rfl _ HP2.out (fun j _ => by rw [Nat.zero_add]; exact cell_of_row _ _ _ _ _ _ HMR.out.r9)) ?_)
              | (refine wpList_val rfl (ex_load (ty := 40) rfl isAgg_pair (W6.heap.size + 1) 0 rfl qv.cells rfl (PV.load _ HMR.out.r10)) ?_)
              | (refine wpList_val rfl (ex_build0 rfl) ?_)
              | (refine wpList_neq keyable_page HKN.out HKN.out rfl rfl rfl rfl ?_; intro r hr; obtain rfl := hr.2 rfl))
          clear c70 c71 c72 d110 d111 d112
          refine (wakes_calls _).mono ?_
          rintro e W' ⟨rfl, hag⟩
          replace HAG := Lib.hid (HAG.out.trans hag)
          replace HMR := Lib.hid (HMR.out.agrees hag)
          replace HO := Lib.hid (HO.out.agrees hag fun _ _ => trivial)
          replace HQ := Lib.hid (HQ.out.agrees hag fun _ _ => trivial)
          clear hag
          obtain ⟨c70, c71, c72, d110, d111, d112⟩ := HMR.out.tals
          go_wp2_with (first
              | go_skip
              | (refine wpList_val rfl (ex_load (ty := 40) rfl isAgg_pair w.heap.size 0 rfl v.cells rfl (PV.load _ HMR.out.r0)) ?_)
              | (refine wpList_val rfl (ex_load (ty := 48) rfl isAgg_ptr (w.heap.size + 1) 0 rfl x.cells rfl (Ptr.load _ HMR.out.r1)) ?_)
              | (refine wpList_val rfl (ex_load (ty := 32) rfl isAgg_page W4.heap.size 0 rfl _ HP1.out (fun j _ => by rw [Nat.zero_add]; exact cell_of_row _ _ _ _ _ _ HMR.out.r5)) ?_)
              | (refine wpList_val rfl (ex_load (ty := 40) rfl isAgg_pair (W4.heap.size + 1) 0 rfl ov.cells rfl (PV.load _ HMR.out.r6)) ?_)
              | (refine wpList_val rfl (ex_load (ty := 32) rfl isAgg_page W6.heap.size 0 rfl _ HP2.out (fun j _ => by rw [Nat.zero_add]; exact cell_of_row _ _ _ _ _ _ HMR.out.r9)) ?_)
              | (refine wpList_val rfl (ex_load (ty := 40) rfl isAgg_pair (W6.heap.size + 1) 0 rfl qv.cells rfl (PV.load _ HMR.out.r10)) ?_)
              | (refine wpList_val rfl (ex_build0 rfl) ?_)
              | (refine wpList_neq keyable_page HKN.out HKN.out rfl rfl rfl rfl ?_; intro r hr; obtain rfl := hr.2 rfl))
          clear c70 c71 c72 d110 d111 d112
          go_ret
          exact ⟨rfl, HAG.out⟩
  · go_wp2_with fail
    refine (wakes_calls W3).mono ?_
    rintro e W4 ⟨rfl, hag⟩
    have HF := Lib.hid (HA3.out.trans hag)
    clear hag
    go_wp2_with fail
    go_ret
    exact ⟨rfl, HF.out⟩
end Suture
