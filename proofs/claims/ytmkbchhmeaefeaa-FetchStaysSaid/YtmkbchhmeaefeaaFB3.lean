/-
  THE WRITES THAT WAIT AT A PLACE: vdev.last's iterator.
  Conditions: none beyond the disk's own reading.
-/
import Derived.Test.YtmkbchhmeaefeaaFB2
import Derived.Great.BuildSlice
namespace Suture
open Go Go.RowKit Go.Proofs
attribute [local go_sem] Oper.semAt_some

set_option maxHeartbeats 2000000 in
set_option maxRecDepth 100000 in
theorem last1_iter (R : Nat → Prop) (n₀ : Nat) (w0 : World) (Dx Ax : Nat) (v : DV) (d : Disk) (at' : Int) (hD : w0.heap[Dx]? = some (.cells v.cells 37 (0, 0))) (hA : w0.heap[Ax]? = some (.cells #[.int .i64 at'] 3 (0, 0)))
    (hRD : R Dx) (hRA : R Ax) (hv : DiskAt R w0 v d) (hR : ∀ b, R b → b < w0.heap.size) (hn : n₀ ≤ w0.heap.size) :
    IterAt Try.prog 75 #[.pointer (some ⟨Dx, 0, none⟩), .pointer (some ⟨Ax, 0, none⟩)] (fun k => #[.agg (pageCells ((d.waits at').getD k []))]) (d.waits at').length n₀ R w0 := by
  intro l J Jx C W hag hC hJ hJx hY h0
  refine (callsIn_wide (n := 0)).1 (callsIn_of_wp_marks Try.func75 rfl trivial (wpIn_wide.2 ?_) rfl)
  simp only [Try.ntmps75, List.size_toArray, List.length_cons, List.length_nil, Nat.reduceAdd, Nat.reduceSub, Array.replicate_succ, Array.replicate_zero, List.push_toArray, List.append_toArray, List.nil_append, List.cons_append]
  obtain ⟨pa, pn, pc, ca, cn, cc, ba, bn, bc, off⟩ := v
  have hdl := (Array.getElem?_eq_some_iff.1 hD).1
  have hal := (Array.getElem?_eq_some_iff.1 hA).1
  have hsW := hag.size
  have hDW := (hag.block Dx hdl hRD).trans hD
  have hAW := (hag.block Ax hal hRA).trans hA
  obtain ⟨W2, hW2⟩ : ∃ W2, (W.alloc (.cells #[.func (.yield l) #[] #[]] 118)).alloc (.cells #[.slice ca cn cc] 34) = W2 := ⟨_, rfl⟩
  have hA2 : Agrees All W W2 := by rw [← hW2]; exact ((Agrees.refl _ W).alloc _).alloc _
  have hs2 : W2.heap.size = W.heap.size + 2 := by rw [← hW2]; simp
  have hy2 : W2.heap[W.heap.size]? = some (.cells #[.func (.yield l) #[] #[]] 118 (0, 0)) := by
    rw [← hW2, heap_alloc_old _ _ (by simp)]; exact World.alloc_heap_new W _
  have hbx2 : W2.heap[W.heap.size + 1]? = some (.cells #[.slice ca cn cc] 34 (0, 0)) := by
    rw [← hW2]; have := World.alloc_heap_new (W.alloc (.cells #[.func (.yield l) #[] #[]] 118)) (.cells #[.slice ca cn cc] 34); rwa [World.size_alloc] at this
  have hD2 := (hA2.block Dx (Nat.lt_of_lt_of_le hdl hsW) trivial).trans hDW
  have hA3 := (hA2.block Ax (Nat.lt_of_lt_of_le hal hsW) trivial).trans hAW
  have HV := Lib.hid hv
  have HD2 := Lib.hid hD2
  have HAB := Lib.hid hA3
  have HY2 := Lib.hid hy2
  have hc1 : W.cell? ⟨Dx, 1, none⟩ = some (.slice ca cn cc) := by rw [cell_of_row _ _ _ _ _ _ hDW]; rfl
  have hc1' : (W.alloc (.cells #[.func (.yield l) #[] #[]] 118)).cell? ⟨Dx, 1, none⟩ = some (.slice ca cn cc) :=
    (((Agrees.refl All W).alloc _).cell (p := ⟨Dx, 1, none⟩) (Nat.lt_of_lt_of_le hdl hsW) trivial).trans hc1
  have HJ := Lib.hid hJ
  have HJX := Lib.hid hJx
  have HYI := Lib.hid hY
  have HCI := Lib.hid hC
  have HH0 := Lib.hid h0
  clear hv hD2 hA3 hy2 hDW hAW hc1 hJ hJx hY hC h0 hD hA
  go_wp2_with (go_at_call 76; refine (backwardW_calls _ _ _ _).mono ?_; rintro e w' ⟨rfl, rfl⟩)
  have hcn := HV.out.cn
  simp only at hcn
  have hlt : ∀ b, R b → b < W.heap.size := fun b hb => Nat.lt_of_lt_of_le (hR b hb) hsW
  have hCW2 : CellsAt (fun b => R b ∨ b = W.heap.size + 1) W2 (.slice ca cn cc) 257 cn (d.cache.map wrL).flatten :=
    ((HV.out.cache.agrees hag fun _ h => h).agrees hA2 fun _ _ => trivial).mono fun b hb => .inl hb
  have hok : ∀ x ∈ d.cache, x.2.length = 256 := fun x hx => (HV.out.ok.wr x hx).2
  refine wp_rangeFunc_box rfl (Go.Proofs.enters_of Try.func81 (by kernel_rfl) rfl)
    (backwardW1_iter (fun b => R b ∨ b = W.heap.size + 1) W2.heap.size W2 (W.heap.size + 1) ca cn cc d.cache hbx2 (.inr rfl) hcn hok hCW2 (fun b hb => by rcases hb with hb | hb; (have := hlt b hb; omega); omega))
    (Agrees.refl _ _) (fun b hb => by rcases hb with hb | hb; (have := hlt b hb; omega); omega) (Nat.le_refl _) (fun _ => rfl)
    C (fun b hb => ⟨fun h => by rcases h with h | h; exact (HCI.out b hb).1 h; (have := (HCI.out b hb).2; omega), by have := (HCI.out b hb).2; omega⟩)
    (fun k C' W' => J (d.cnt at' k) C' W' ∧ Agrees (fun b => ¬ C b) W2 W' ∧ (∀ b, C' b → (C b ∨ W2.heap.size ≤ b)))
    (fun c k C' W' => c = .ret ∧ Jx (d.cnt at' k) C' W' ∧ d.cnt at' k < (d.waits at').length)
    ?stabI ?stabX ⟨by unfold Disk.cnt; simpa using HJ.out _ _ _ _ HH0.out hA2.weak, Agrees.refl _ _, fun b hb => .inl hb⟩
    (fun k b => { tmps := #[.func (.yield l) #[] #[], .pointer (some ⟨Dx, 0, none⟩), .pointer (some ⟨Ax, 0, none⟩), .pointer (some ⟨W.heap.size, 0, none⟩), undef, .pointer (some ⟨b, 0, none⟩), .pointer (some ⟨Dx, 1, none⟩), .slice ca cn cc,
      .func (.func 81) #[] #[.pointer (some ⟨W.heap.size + 1, 0, none⟩)], .int .i64 ((cn - 1 - k : Nat) : Int), .agg (wrCells (d.cache.getD (cn - 1 - k) noWr)), undef, undef, undef, undef, undef, undef, undef, undef, undef, undef, undef], defers := [] })
    (fun k => wrCells (d.cache.getD (cn - 1 - k) noWr)) 75 ?assign ?body ?done ?stop
  case stabI =>
    rintro k C' W3 W4 ⟨h1, h2, h3⟩ hg
    refine ⟨HJ.out _ _ _ _ h1 (hg.mono fun b _ hb => ?_), h2.trans' hg (fun b hb hn => .inr hb), h3⟩
    rcases hb with hb | hb
    · exact .inl hb
    · exact .inr (by omega)
  case stabX =>
    rintro c k C' W3 W4 ⟨h1, h2, h3⟩ hg
    refine ⟨h1, HJX.out _ _ _ _ h2 (hg.mono fun b _ hb => ?_), h3⟩
    rcases hb with hb | hb
    · exact .inl hb
    · exact .inr (by omega)
  case assign =>
    intro l' k W3 K hkn hK
    have hx : d.cache[cn - 1 - k]? = some (d.cache.getD (cn - 1 - k) noWr) := by rw [List.getD_eq_getElem?_getD, List.getElem?_eq_getElem (by omega)]; rfl
    have HXL := Lib.hid (hok _ (List.mem_of_getElem? hx))
    generalize d.cache.getD (cn - 1 - k) noWr = x at *
    have HXS := Lib.hid (wrCells_size x HXL.out)
    have HXO := Lib.hid (wrCells_one x)
    have hrow := World.alloc_heap_new W3 (.cells zeroWr 75)
    have HROW := Lib.hid hrow
    have HK := Lib.hid (hK W3.heap.size ((W3.alloc (.cells zeroWr 75)).setRow W3.heap.size (wrCells x)) (((Agrees.refl All W3).alloc _).setRow (.inr (Nat.le_refl _)) _) (Nat.le_refl _) (setRow_heap _ _ _ _ _ _ hrow))
    clear hK hx hrow
    rw [fold2]
    change Code.wpIn (Fence.wide.inRound l') 0 Try.prog _ _ ({ tmps := #[.func (.yield l) #[] #[], .pointer (some ⟨Dx, 0, none⟩), .pointer (some ⟨Ax, 0, none⟩), .pointer (some ⟨W.heap.size, 0, none⟩), undef, undef, .pointer (some ⟨Dx, 1, none⟩), .slice ca cn cc,
      .func (.func 81) #[] #[.pointer (some ⟨W.heap.size + 1, 0, none⟩)], .int .i64 ((cn - 1 - k : Nat) : Int), .agg (wrCells x), undef, undef, undef, undef, undef, undef, undef, undef, undef, undef, undef], defers := [] } : Act) W3
    gi_wp2_with (first | (refine wpListIn_val (fun _ => trivial) rfl rfl (ex_alloc rfl (.agg zeroWr) zero_write) ?_; rw [show (Value.agg zeroWr).cells = zeroWr from rfl]) | (refine wpListIn_unit (fun _ => trivial) rfl rfl (ex_storeAll (ty := 75) rfl isAgg_write.2 W3.heap.size rfl (wrCells x) zeroWr rfl HXS.out HROW.out zeroWr_size HXO.out) ?_))
    exact HK.out
  case body =>
    rintro l' k bx C' W3 hk ⟨h1, h2, h3⟩ hC3 hsz hbx hnb hlo
    have hxo := wrCells_get
    have hSUC := d.cnt_succ at' k (by omega)
    have hGET := d.cnt_get at' k (by omega)
    rw [hcn] at hSUC hGET
    have hx : d.cache[cn - 1 - k]? = some (d.cache.getD (cn - 1 - k) noWr) := by rw [List.getD_eq_getElem?_getD, List.getElem?_eq_getElem (by omega)]; rfl
    have HXL := Lib.hid (hok _ (List.mem_of_getElem? hx))
    obtain ⟨x, hxe⟩ : ∃ x, d.cache.getD (cn - 1 - k) noWr = x := ⟨_, rfl⟩
    rw [hxe] at hbx hSUC hGET HXL ⊢
    have haC : ¬ C Ax := fun h => (HCI.out Ax h).1 hRA
    have hyC : ¬ C W.heap.size := fun h => by have := (HCI.out _ h).2; omega
    have hyR : W3.cell? ⟨W.heap.size, 0, none⟩ = some (.func (.yield l) #[] #[]) := by rw [cell_of_row _ _ _ _ _ _ ((h2.block _ (by omega) hyC).trans HY2.out)]; rfl
    have haR : W3.cell? ⟨Ax, 0, none⟩ = some (.int .i64 at') := by rw [cell_of_row _ _ _ _ _ _ ((h2.block _ (by omega) haC).trans HAB.out)]; rfl
    have hbR : W3.cell? ⟨bx, 0, none⟩ = some (.int .i64 x.1) := by rw [cell_of_row _ _ _ _ _ _ hbx]; exact wr_head x
    have HBX := Lib.hid hbx
    have HPC := Lib.hid (show ∀ j, j < 256 → W3.cell? ⟨bx, 1 + j, none⟩ = (pageCells x.2)[j]? from fun j hj => by rw [cell_of_row _ _ _ _ _ _ hbx]; exact wr_tail x j hj)
    have HPS := Lib.hid (show (pageCells x.2).size = 256 by rw [pageCells_size]; exact HXL.out)
    have H1 := Lib.hid h1
    have H2 := Lib.hid h2
    have H3 := Lib.hid h3
    have HC3 := Lib.hid hC3
    have HSUC := Lib.hid hSUC
    have HGET := Lib.hid hGET
    clear h1 h2 h3 hC3 hSUC hGET hbx hx hxo hnb haC hyC
    by_cases hat : x.1 = at'
    · obtain ⟨hkl, hge⟩ := HGET.out hat
      obtain ⟨fn, tmps, assign, body, hy, hR'⟩ := HYI.out (d.cnt at' k) C' W3 hkl H1.out HC3.out
      rw [hge] at hy
      have HKL := Lib.hid hkl
      have HRR := Lib.hid hR'
      obtain ⟨x1, x2⟩ := x
      simp only at hat
      subst hat
      clear hkl hge hR'
      gi_wp2_with (refine wpListIn_val (fun _ => trivial) rfl rfl (ex_load (ty := 32) rfl isAgg_page bx 1 rfl (pageCells x2) HPS.out HPC.out) ?_)
      refine ⟨rfl, HRR.out.mono ?_⟩
      rintro e W4 (⟨rfl, hag4, C4, hj4, hC4⟩ | ⟨rfl, hag4, C4, hj4, hC4⟩)
      all_goals
        have HG4 := Lib.hid hag4
        have HJ4 := Lib.hid hj4
        have HC4 := Lib.hid hC4
        clear hag4 hj4 hC4
        gi_wp2
      · refine ⟨HG4.out, C4, ⟨by have := HSUC.out; rw [if_pos trivial] at this; rw [this]; exact HJ4.out, ?_, ?_⟩, HC4.out⟩
        · exact H2.out.trans' HG4.out (fun b hb hn hc => (H3.out b hc).elim hn (fun h => by omega))
        · intro b hb
          rcases (HC4.out b hb).2 with h | h
          · exact H3.out b h
          · exact .inr (by omega)
      · exact ⟨HG4.out, C4, ⟨rfl, HJ4.out, HKL.out⟩, HC4.out⟩
    · have hbf : (x.1 == at') = false := by simpa using hat
      gi_wp2
      all_goals refine ⟨fun f hf => (by cases hf), ?_⟩
      all_goals gi_wp2
      all_goals
        exact ⟨Agrees.refl _ _, C', ⟨by have := HSUC.out; rw [if_neg hat] at this; rw [this]; exact H1.out, H2.out, H3.out⟩, fun b hb => ⟨HC3.out b hb, .inl hb⟩⟩
  case done =>
    rintro D C' W3 hD ⟨h1, h2, h3⟩ hK hnD
    have H1 := Lib.hid h1
    have HK := Lib.hid hK
    have HDn := Lib.hid hnD
    rw [← hcn, Disk.cnt_all] at H1
    clear h1 h2 h3 hK hnD
    go_wp2
    refine ⟨by simp, .inl ⟨_, _, rfl, run_takeDeferred HK.out, ?_⟩⟩
    refine ⟨_, results_none rfl _ _ _, ?_⟩
    exact ⟨⟨_, rfl⟩, C', .inl (HJ.out _ _ _ _ H1.out ((Agrees.refl _ W3).putObj (.inl (fun h => h.elim HDn.out (fun h => by omega))) _))⟩
  case stop =>
    rintro D k c C' W3 hD hk ⟨rfl, h2, h3⟩ hK hnD
    have H2 := Lib.hid h2
    have H3 := Lib.hid h3
    have HK := Lib.hid hK
    have HDn := Lib.hid hnD
    clear h2 h3 hK hnD
    go_wp2
    refine ⟨by simp, .inl ⟨_, _, rfl, run_takeDeferred HK.out, ?_⟩⟩
    refine ⟨_, results_none rfl _ _ _, ?_⟩
    exact ⟨⟨_, rfl⟩, C', .inr ⟨_, H3.out, HJX.out _ _ _ _ H2.out ((Agrees.refl _ W3).putObj (.inl (fun h => h.elim HDn.out (fun h => by omega))) _)⟩⟩
end Suture
/-
  WHETHER A DISK MAY BE: vdev.May.
  Conditions: none beyond the disk's own reading.
-/
namespace Suture
open Go Go.RowKit Go.Proofs
attribute [local go_sem] Oper.semAt_some

set_option maxHeartbeats 2000000 in
set_option maxRecDepth 100000 in
theorem may_calls (v : DV) (d : Disk) (w : World) (hv : DiskAt All w v d) :
    Calls Try.prog 74 #[.agg v.cells] w fun e w' => e = .returned (.bool d.may) ∧ Agrees All w w' := by
  obtain ⟨pa, pn, pc, ca, cn, cc, ba, bn, bc, off⟩ := v
  obtain ⟨W1, hW1⟩ : ∃ W1, w.alloc (.cells (DV.mk pa pn pc ca cn cc ba bn bc off).cells 37) = W1 := ⟨_, rfl⟩
  have hA1 : Agrees All w W1 := by rw [← hW1]; exact (Agrees.refl _ w).alloc _
  have hr1 : W1.heap[w.heap.size]? = some (.cells (DV.mk pa pn pc ca cn cc ba bn bc off).cells 37 (0, 0)) := by rw [← hW1]; exact World.alloc_heap_new w _
  have hpn := hv.pn
  have hcn := hv.cn
  have hbn := hv.bn
  have hoff := hv.off
  have hmp := hv.pages.max.1
  have hmc := hv.cache.max.1
  have hmb := hv.bad.max.1
  simp only at hpn hcn hbn hoff
  have HV := Lib.hid hv
  have HPN := Lib.hid hpn
  have HCN := Lib.hid hcn
  have HBN := Lib.hid hbn
  have HOFF := Lib.hid hoff
  have HA1 := Lib.hid hA1
  have HR1 := Lib.hid hr1
  clear hv hpn hcn hbn hoff hA1 hr1
  go_enter Try.func74, Try.ntmps74
  go_wp2_with fail
  refine wp_scope_straight ?_
  refine wp_cut2 (Here (fun (f : Bool) u => (u 0 :: (.pointer (some ⟨w.heap.size, 0, none⟩) : Value) :: (.bool f : Value) :: (.int .i64 (pn : Int) : Value) :: u 4 :: u 5 :: u 6 :: u 7 :: u 8 :: u 9 :: u 10 :: u 11 :: u 12 :: u 13 :: u 14 :: u 15 :: u 16 :: u 17 :: u 18 :: u 19 :: u 20 :: u 21 :: u 22 :: u 23 :: u 24 :: u 25 :: u 26 :: u 27 :: u 28 :: u 29 :: u 30 :: u 31 :: u 32 :: u 33 :: u 34 :: u 35 :: u 36 :: u 37 :: u 38 :: u 39 :: u 40 :: u 41 :: u 42 :: u 43 :: u 44 :: u 45 :: u 46 :: u 47 :: u 48 :: u 49 :: u 50 :: u 51 :: u 52 :: u 53 :: u 54 :: u 55 :: u 56 :: u 57 :: u 58 :: u 59 :: u 60 :: u 61 :: u 62 :: u 63 :: u 64 :: u 65 :: u 66 :: u 67 :: u 68 :: u 69 :: u 70 :: u 71 :: u 72 :: u 73 :: u 74 :: u 75 :: u 76 :: u 77 :: []).toArray) (fun f W => f = d.may0 ∧ Agrees All W1 W)) ?part1 ?part2
  case part1 =>
    intro K1 hK1
    have c0 : W1.cell? ⟨w.heap.size, 0, none⟩ = some (.slice pa pn pc) := by rw [cell_of_row _ _ _ _ _ _ HR1.out]; rfl
    have c1 : W1.cell? ⟨w.heap.size, 1, none⟩ = some (.slice ca cn cc) := by rw [cell_of_row _ _ _ _ _ _ HR1.out]; rfl
    have c3 : W1.cell? ⟨w.heap.size, 3, none⟩ = some (.bool off) := by rw [cell_of_row _ _ _ _ _ _ HR1.out]; rfl
    have HM : RowKit.Hid (d.may0 = (decide (32 ≤ (pn : Int)) && decide ((pn : Int) ≤ 256) && decide ((cn : Int) ≤ 2000) && !(off && decide (0 < (cn : Int))))) := by
      unfold Disk.may0 Disk.size
      rw [HPN.out, HCN.out, HOFF.out]
      exact Lib.hid rfl
    cases off
    all_goals
      go_wp2_with fail
      all_goals
        refine here_of _ (by rfl) rfl ⟨?_, Agrees.refl _ _⟩
        rw [HM.out, Bool.eq_iff_iff]
        first
          | (simp; done)
          | (simp; omega)
          | (change (decide ((cn : Int) ≤ 2000)) = true ↔ _; simp; omega)
          | (change (!(decide (0 < (cn : Int)))) = true ↔ _; simp; omega)
  case part2 =>
    rintro a' W ⟨f, u, rfl, hf, hag⟩
    refine wp_seq (wp_label ?_)
    simp only [Exit.then]
    have HAG := Lib.hid hag
    have HF := Lib.hid hf
    clear hag hf hW1
    have hr := (HAG.out.block _ (Array.getElem?_eq_some_iff.1 HR1.out).1 trivial).trans HR1.out
    have c1 : W.cell? ⟨w.heap.size, 1, none⟩ = some (.slice ca cn cc) := by rw [cell_of_row _ _ _ _ _ _ hr]; rfl
    clear hr
    refine wp_seq_cut (Here (fun (f : Bool) u => (u 0 :: (.pointer (some ⟨w.heap.size, 0, none⟩) : Value) :: (.bool f : Value) :: (.int .i64 (pn : Int) : Value) :: u 4 :: u 5 :: u 6 :: u 7 :: u 8 :: u 9 :: u 10 :: u 11 :: u 12 :: u 13 :: u 14 :: u 15 :: u 16 :: u 17 :: u 18 :: u 19 :: u 20 :: u 21 :: u 22 :: u 23 :: u 24 :: u 25 :: u 26 :: u 27 :: u 28 :: u 29 :: u 30 :: u 31 :: u 32 :: u 33 :: u 34 :: u 35 :: u 36 :: u 37 :: u 38 :: u 39 :: u 40 :: u 41 :: u 42 :: u 43 :: u 44 :: u 45 :: u 46 :: u 47 :: u 48 :: u 49 :: u 50 :: u 51 :: u 52 :: u 53 :: u 54 :: u 55 :: u 56 :: u 57 :: u 58 :: u 59 :: u 60 :: u 61 :: u 62 :: u 63 :: u 64 :: u 65 :: u 66 :: u 67 :: u 68 :: u 69 :: u 70 :: u 71 :: u 72 :: u 73 :: u 74 :: u 75 :: u 76 :: u 77 :: []).toArray) (fun f W => f = (d.may0 && d.cache.all (placed d.size)) ∧ Agrees All W1 W)) ?part3 ?part4
    case part3 =>
      have HG0 : RowKit.Hid (f = (f && (d.cache.take 0).all (placed d.size)) ∧ Agrees All W1 W) := ⟨by simp, HAG.out⟩
      go_wp2_with fail
      go_loopw [2, 38] (fun gg ii wr => ∃ (i : Nat) (g : Bool), i ≤ cn ∧ ii = .int .i64 i ∧ gg = .bool g ∧ RowKit.Hid (g = (f && (d.cache.take i).all (placed d.size)) ∧ Agrees All W1 wr)) (fun _ ii _ => cn - (intOf ii).toNat)
      case atStart => exact ⟨0, f, by omega, rfl, rfl, HG0⟩
      case round =>
        obtain ⟨i, g, hi, rfl, rfl, HW⟩ := hrel
        clear HG0 c1
        by_cases hlt : i < cn
        · obtain ⟨x, hx⟩ : ∃ x, d.cache[i]? = some x := ⟨_, List.getElem?_eq_getElem (by rw [HCN.out]; exact hlt)⟩
          have hxl := (HV.out.ok.wr x (List.mem_of_getElem? hx)).2
          obtain ⟨b, off', rfl, _, hbl, hc⟩ := CellsAt.elem (f := wrL) ((HV.out.cache.agrees (HA1.out.trans HW.out.2) fun _ h => h)) (fun y hy => by rw [wrL_length, (HV.out.ok.wr y hy).2]) (by omega) hx
          have HXS := Lib.hid (wrCells_size x hxl)
          have HXO := Lib.hid (wrCells_one x)
          have HXC := Lib.hid (show ∀ j, j < 257 → wr.cell? ⟨b, off' + i * 257 + j, none⟩ = (wrCells x)[j]? from fun j hj => by rw [wrCells_get]; exact hc j hj)
          have hrow := World.alloc_heap_new wr (.cells zeroWr 75)
          obtain ⟨q, hq⟩ : ∃ q, wr.heap.size = q := ⟨_, rfl⟩
          rw [hq] at hrow
          obtain ⟨W5, hW5⟩ : ∃ W5, (wr.alloc (.cells zeroWr 75)).setRow q (wrCells x) = W5 := ⟨_, rfl⟩
          have h5 : W5.cell? ⟨q, 0, none⟩ = some (.int .i64 x.1) := by
            rw [← hW5, cell_of_row _ _ _ _ _ _ (setRow_heap _ _ _ _ _ _ hrow)]; exact wr_head x
          have HA5 := Lib.hid (show Agrees All W1 W5 by rw [← hW5]; exact (HW.out.2.trans ((Agrees.refl _ wr).alloc _)).setRow (.inr (by have := HW.out.2.size; omega)) _)
          have HROW := Lib.hid hrow
          have HS : RowKit.Hid ((d.cache.take (i + 1)).all (placed d.size) = ((d.cache.take i).all (placed d.size) && (decide (0 ≤ x.1) && decide (x.1 < (pn : Int))))) := by
            rw [List.take_add_one, hx, List.all_append]
            simp [placed, Disk.size, HPN.out, RowKit.Hid]
          have HALL : RowKit.Hid (placed d.size x = (decide (0 ≤ x.1) && decide (x.1 < (pn : Int)))) := by
            simp [placed, Disk.size, HPN.out, RowKit.Hid]
          have HMEM := Lib.hid (List.mem_of_getElem? hx)
          clear hc hrow hx hxl
          have HFL : RowKit.Hid ((g && (decide (0 ≤ x.1) && decide (x.1 < (pn : Int)))) = false → false = (d.may0 && d.cache.all (placed d.size))) := by
            refine Lib.hid fun hh => ?_
            rw [← HF.out, ← HALL.out] at *
            cases hfa : (f && d.cache.all (placed d.size)) with
            | false => rfl
            | true =>
              exfalso
              rw [Bool.and_eq_true, List.all_eq_true] at hfa
              have e1 : (f && (d.cache.take i).all (placed d.size)) = true := by
                rw [hfa.1, Bool.true_and, List.all_eq_true]
                exact fun y hy => hfa.2 y (List.mem_of_mem_take hy)
              rw [HW.out.1, e1, hfa.2 x HMEM.out] at hh
              cases hh
          have HTR : RowKit.Hid ((g && (decide (0 ≤ x.1) && decide (x.1 < (pn : Int)))) = true → true = (f && (d.cache.take (i + 1)).all (placed d.size))) := by
            refine Lib.hid fun hh => ?_
            rw [HS.out, ← Bool.and_assoc, ← HW.out.1, hh]
          clear HW HS HALL HMEM
          by_cases h0 : 0 ≤ x.1 <;> by_cases h1 : x.1 < (pn : Int) <;> cases g
          all_goals try (exfalso; omega)
          all_goals
            clear HV HR1 HA1 HAG HF hbl
            go_wp2_with (first | (refine wpList_val rfl (ex_load (ty := 75) rfl isAgg_write b (off' + i * 257) rfl (wrCells x) HXS.out HXC.out) ?_) | (refine wpList_val rfl (ex_alloc rfl (.agg zeroWr) zero_write) ?_; rw [show (Value.agg zeroWr).cells = zeroWr from rfl, hq]) | (refine wpList_unit rfl (ex_storeAll (ty := 75) rfl isAgg_write.2 q rfl (wrCells x) zeroWr rfl HXS.out HROW.out zeroWr_size HXO.out) ?_; rw [hW5]))
            first
              | exact ⟨⟨i + 1, true, by omega, by simp, rfl, Lib.hid ⟨HTR.out (by simp [h0, h1]), HA5.out⟩⟩, by simp [intOf]; omega⟩
              | (refine here_of false ?_ ?_ ?_
                 · rfl
                 · rfl
                 · exact ⟨HFL.out (by simp [h0, h1]), HA5.out⟩)
        · obtain rfl : i = cn := by omega
          have HEND : RowKit.Hid (g = (d.may0 && d.cache.all (placed d.size))) := by
            refine Lib.hid ?_
            rw [HW.out.1, HF.out, List.take_of_length_le (by rw [HCN.out]; exact Nat.le_refl _)]
          have HAE := Lib.hid HW.out.2
          clear HW
          go_wp2_with fail
          refine here_of g ?_ ?_ ?_
          · rfl
          · rfl
          · exact ⟨HEND.out, HAE.out⟩
    case part4 =>
      rintro a' Wb ⟨f2, u2, rfl, hf2, hagb⟩
      have HAB := Lib.hid hagb
      have hr := (HAB.out.block _ (Array.getElem?_eq_some_iff.1 HR1.out).1 trivial).trans HR1.out
      have c2 : Wb.cell? ⟨w.heap.size, 2, none⟩ = some (.slice ba bn bc) := by rw [cell_of_row _ _ _ _ _ _ hr]; rfl
      have HF2 := Lib.hid hf2
      clear hr hf2 hagb
      simp only
      have HG0 : RowKit.Hid (f2 = (f2 && rising d.size (-1) (d.bad.take 0)) ∧ (-1 : Int) = (d.bad.take 0).getLastD (-1)) := ⟨by simp [rising], by simp⟩
      go_wp2_with fail
      go_loop [2, 6, 60] (fun gg bb ii => ∃ (i : Nat) (g : Bool) (bf : Int), i ≤ bn ∧ ii = .int .i64 i ∧ gg = .bool g ∧ bb = .int .i64 bf ∧ RowKit.Hid (g = (f2 && rising d.size (-1) (d.bad.take i)) ∧ bf = (d.bad.take i).getLastD (-1))) (fun _ _ ii => bn - (intOf ii).toNat)
      case atStart => exact ⟨0, f2, -1, by omega, rfl, rfl, rfl, HG0⟩
      case round =>
        obtain ⟨i, g, bf, hi, rfl, rfl, rfl, HW⟩ := hrel
        clear HG0
        by_cases hlt : i < bn
        · obtain ⟨x, hx⟩ : ∃ x, d.bad[i]? = some x := ⟨_, List.getElem?_eq_getElem (by rw [HBN.out]; exact hlt)⟩
          obtain ⟨b, off', rfl, _, hbl, hc⟩ := CellsAt.elem (f := intL) ((HV.out.bad.agrees (HA1.out.trans HAB.out) fun _ h => h)) (fun y hy => rfl) (by omega) hx
          have hcell : Wb.cell? ⟨b, off' + i, none⟩ = some (.int .i64 x) := by have := hc 0 (by omega); simpa [intL] using this
          have HS : RowKit.Hid (rising d.size (-1) (d.bad.take (i + 1)) = (rising d.size (-1) (d.bad.take i) && decide (bf < x) && decide (x < (pn : Int)))) := by
            refine Lib.hid ?_
            rw [List.take_add_one, hx]
            simp only [Option.toList]
            rw [rising_snoc, ← HW.out.2]
            simp [Disk.size, HPN.out]
          have HL : RowKit.Hid (x = (d.bad.take (i + 1)).getLastD (-1)) := by
            refine Lib.hid ?_
            rw [List.take_add_one, hx]
            simp
          clear hc hx
          have HT : RowKit.Hid ((g && (decide (bf < x) && decide (x < (pn : Int)))) = (f2 && rising d.size (-1) (d.bad.take (i + 1)))) := by
            refine Lib.hid ?_
            have e := HW.out.1
            rw [HS.out, e]
            simp only [Bool.and_assoc]
          clear HW HS
          by_cases h0 : bf < x <;> by_cases h1 : x < (pn : Int) <;> cases g
          all_goals
            go_wp2_with fail
            refine ⟨⟨i + 1, _, x, by omega, by simp, rfl, rfl, Lib.hid ⟨?_, HL.out⟩⟩, by simp [intOf]; omega⟩
            rw [← HT.out]
            simp [h0, h1]
        · obtain rfl : i = bn := by omega
          have HEND : RowKit.Hid (g = d.may) := by
            refine Lib.hid ?_
            rw [HW.out.1, List.take_of_length_le (by rw [HBN.out]; exact Nat.le_refl _), HF2.out]; rfl
          clear HW
          go_wp2_with fail
          go_ret
          exact ⟨by rw [← HEND.out]; rfl, HA1.out.trans HAB.out⟩
end Suture
/-
  A PLACE ON A DISK: vdev.asked, vdev.Read.
  Conditions: none beyond the disk's own reading.
-/
namespace Suture
open Go Go.RowKit Go.Proofs
attribute [local go_sem] Oper.semAt_some

theorem isAgg_disk : IsAgg Try.prog 37 4 := ⟨⟨_, Try.underlying37, rfl⟩, by kernel_rfl⟩
theorem DV.load (v : DV) {W : World} {b : Nat} {t : TypeId} (h : W.heap[b]? = some (.cells v.cells t (0, 0))) : ∀ j, j < 4 → W.cell? ⟨b, 0 + j, none⟩ = v.cells[j]? := by
  intro j _; rw [cell_of_row _ _ _ _ _ _ h, Nat.zero_add]
theorem oneErrno : IsOne Try.prog 41 := ⟨⟨_, Try.underlying41, rfl⟩, by kernel_rfl⟩

set_option maxHeartbeats 1000000 in
theorem vasked_calls (v : DV) (d : Disk) (at' : Int) (w : World) (hv : DiskAt All w v d) :
    Calls Try.prog 68 #[.agg v.cells, .int .i64 at'] w fun e w' => e = .returned (.int .i64 (d.asked at')) ∧ Agrees All w w' := by
  obtain ⟨W1, hW1⟩ : ∃ W1, w.alloc (.cells v.cells 37) = W1 := ⟨_, rfl⟩
  have hA1 : Agrees All w W1 := by rw [← hW1]; exact (Agrees.refl _ w).alloc _
  have hr1 : W1.heap[w.heap.size]? = some (.cells v.cells 37 (0, 0)) := by rw [← hW1]; exact World.alloc_heap_new w _
  have HM := Lib.hid (may_calls v d W1 (hv.agrees hA1 fun _ h => h))
  have HA1 := Lib.hid hA1
  have HR1 := Lib.hid hr1
  have HPN := Lib.hid hv.pn
  have HOFF := Lib.hid hv.off
  clear hA1 hr1 hv
  go_enter Try.func68, Try.ntmps68
  go_wp2_with (refine wpList_val rfl (ex_load (ty := 37) rfl isAgg_disk w.heap.size 0 rfl v.cells rfl (v.load HR1.out)) ?_)
  refine HM.out.mono ?_
  rintro e W2 ⟨rfl, hag⟩
  have HA2 := Lib.hid (HA1.out.trans hag)
  have hr2 := (hag.block _ (Array.getElem?_eq_some_iff.1 HR1.out).1 trivial).trans HR1.out
  obtain ⟨pa, pn, pc, ca, cn, cc, ba, bn, bc, off⟩ := v
  have c0 : W2.cell? ⟨w.heap.size, 0, none⟩ = some (.slice pa pn pc) := by rw [cell_of_row _ _ _ _ _ _ hr2]; rfl
  have c3 : W2.cell? ⟨w.heap.size, 3, none⟩ = some (.bool off) := by rw [cell_of_row _ _ _ _ _ _ hr2]; rfl
  have HE : RowKit.Hid (d.asked at' = if !d.may || decide (at' < 0) || decide ((pn : Int) ≤ at') then 2 else if off then 30 else 0) := by
    refine Lib.hid ?_
    unfold Disk.asked Disk.size
    rw [HPN.out, HOFF.out]
  clear hag hr2 hW1 HM HR1 HA1
  generalize d.may = m at *
  by_cases h0 : at' < 0 <;> by_cases h1 : (pn : Int) ≤ at' <;> cases m <;> cases off
  all_goals try (exfalso; omega)
  all_goals
    go_wp2_with fail
    go_ret
    exact ⟨by rw [HE.out]; simp [h0, h1], HA2.out⟩

theorem results_a1c1 {P : Program} {fn : Func} {p q : Tmp} {ty tz : TypeId} {n : Nat} (h : fn.results = #[.cell p ty, .cell q tz]) (tmps : Array Value) {W : World} {b c : Nat} {vs : Array Value} {x : Value} (hp : tmps.getD p undef = .pointer (some ⟨b, 0, none⟩)) (hq : tmps.getD q undef = .pointer (some ⟨c, 0, none⟩))
    (hA : IsAgg P ty n) (hn : vs.size = n) (hc : ∀ j, j < n → W.cell? ⟨b, 0 + j, none⟩ = vs[j]?) (hB : IsOne P tz) (hx : W.cell? ⟨c, 0, none⟩ = some x) : (results fn tmps).run P W = .ok (.tuple #[.agg vs, x]) W := by
  have hp' : tmps[p]?.getD undef = .pointer (some ⟨b, 0, none⟩) := by simpa using hp
  have hq' : tmps[q]?.getD undef = .pointer (some ⟨c, 0, none⟩) := by simpa using hq
  simp [results, h, hp', hq', asAddr, run_loadVar_agg hA b 0 vs hn hc, run_loadVar_one hB hx]
end Suture
/-
  A PAGE READ: vdev.Read.
  Conditions: none beyond the disk's own reading.
-/
namespace Suture
open Go Go.RowKit Go.Proofs
attribute [local go_sem] Oper.semAt_some

theorem noPage_len : noPage.length = 256 := List.length_replicate
theorem zero_page (w : World) : (zeroValue 32).run Try.prog w = .ok (.agg (pageCells noPage)) w := by
  rw [pageCells_def]
  kernel_rfl
theorem ex_build0 {o : Oper} {a : Act} {w : World} (ho : o.op = .build 32 #[]) : (execOp a.eval o).run Try.prog w = .ok (.value (.agg (pageCells noPage))) w := by
  have hb : (Instr.build 32 #[]).run Try.prog w = .ok (.agg (pageCells noPage)) w := by
    rw [pageCells_def]
    kernel_rfl
  unfold execOp
  simp only [ho, List.map_toArray, List.map_nil, Sem.run_bind, hb, Result.andThen_ok]
  rfl

theorem Disk.waits_len (d : Disk) (hok : d.ok) (at' : Int) (k : Nat) (hk : k < (d.waits at').length) : ((d.waits at').getD k []).length = 256 := by
  have hm : (d.waits at').getD k [] ∈ d.waits at' := by
    rw [List.getD_eq_getElem?_getD, List.getElem?_eq_getElem hk]; exact List.getElem_mem hk
  unfold Disk.waits at hm
  rw [List.mem_map] at hm
  obtain ⟨x, hx, e⟩ := hm
  unfold Disk.waits
  rw [← e]
  exact (hok.wr x (by simpa using (List.mem_filter.1 hx).1)).2
theorem Disk.read_len (d : Disk) (hok : d.ok) (at' : Int) : (d.read at').1.length = 256 := by
  unfold Disk.read
  split
  · exact noPage_len
  · split
    · rename_i p l h
      have hm : p ∈ d.waits at' := by rw [h]; simp
      unfold Disk.waits at hm
      obtain ⟨x, hx, rfl⟩ := List.mem_map.1 hm
      exact (hok.wr x (by simpa using (List.mem_filter.1 hx).1)).2
    · split
      · exact noPage_len
      · simp only [List.getD_eq_getElem?_getD]
        cases h : d.pages[at'.toNat]? with
        | none => exact noPage_len
        | some p => exact hok.page p (List.mem_of_getElem? h)

/-- the world of vdev.Read, its two results laid -/
structure ReadW (w : World) (p : List (BitVec 8)) (x : Int) (W : World) : Prop where
  ag : Agrees All w W
  page : W.heap[w.heap.size + 1]? = some (.cells (pageCells p) 32 (0, 0))
  err : W.heap[w.heap.size + 1 + 1]? = some (.cells #[.int .i64 x] 41 (0, 0))
theorem ReadW.put {w : World} {p q : List (BitVec 8)} {x y : Int} {W : World} (h : ReadW w q y W) : ReadW w p x ((W.setRow (w.heap.size + 1) (pageCells p)).setCell ⟨w.heap.size + 1 + 1, 0, none⟩ (.int .i64 x)) := by
  have h2 : (W.setRow (w.heap.size + 1) (pageCells p)).heap[w.heap.size + 1 + 1]? = some (.cells #[.int .i64 y] 41 (0, 0)) := by
    rw [setRow_other _ _ _ _ (by omega)]; exact h.err
  refine ⟨(h.ag.setRow (.inr (by omega)) _).setCell (.inr (by show w.heap.size ≤ w.heap.size + 1 + 1; omega)) _, ?_, ?_⟩
  · rw [heap_setCell_other _ _ _ _ (by show w.heap.size + 1 ≠ w.heap.size + 1 + 1; omega)]; exact setRow_heap _ _ _ _ _ _ h.page
  · rw [heap_setCell_same _ _ 0 _ _ _ h2]; rfl
theorem ReadW.agrees {w : World} {p : List (BitVec 8)} {x : Int} {W W' : World} (h : ReadW w p x W) (g : Agrees All W W') : ReadW w p x W' :=
  ⟨h.ag.trans g, (g.block _ (Array.getElem?_eq_some_iff.1 h.page).1 trivial).trans h.page, (g.block _ (Array.getElem?_eq_some_iff.1 h.err).1 trivial).trans h.err⟩
theorem ReadW.obj {w : World} {p : List (BitVec 8)} {x : Int} {W : World} (h : ReadW w p x W) {D : Nat} (hD : w.heap.size + 1 + 1 < D) (o : Obj) : ReadW w p x (W.putObj D o) :=
  ⟨h.ag.putObj (.inr (by omega)) _, (World.putObj_heap_other (by omega)).trans h.page, (World.putObj_heap_other (by omega)).trans h.err⟩
theorem ReadW.results {w : World} {p : List (BitVec 8)} {x : Int} {W : World} (h : ReadW w p x W) (hp : p.length = 256) (tmps : Array Value) (h4 : tmps.getD 4 undef = .pointer (some ⟨w.heap.size + 1, 0, none⟩)) (h5 : tmps.getD 5 undef = .pointer (some ⟨w.heap.size + 1 + 1, 0, none⟩)) :
    (results Try.f58 tmps).run Try.prog W = .ok (.tuple #[.agg (pageCells p), .int .i64 x]) W :=
  results_a1c1 rfl tmps h4 h5 isAgg_page (by rw [pageCells_size, hp]) (fun j _ => by rw [Nat.zero_add]; exact cell_of_row _ _ _ _ _ _ h.page) oneErrno (by rw [cell_of_row _ _ _ _ _ _ h.err]; rfl)

set_option maxHeartbeats 4000000 in
set_option maxRecDepth 100000 in
theorem vread_calls (v : DV) (d : Disk) (at' : Int) (w : World) (hv : DiskAt All w v d) :
    Calls Try.prog 58 #[.agg v.cells, .int .i64 at'] w fun e w' => e = .returned (.tuple #[.agg (pageCells (d.read at').1), .int .i64 (d.read at').2]) ∧ Agrees All w w' := by
  refine (callsIn_wide (n := 0)).1 (callsIn_of_wp_marks Try.func58 rfl trivial (wpIn_wide.2 ?_) rfl)
  simp only [Try.ntmps58, List.size_toArray, List.length_cons, List.length_nil, Nat.reduceAdd, Nat.reduceSub, Array.replicate_succ, Array.replicate_zero, List.push_toArray, List.append_toArray, List.nil_append, List.cons_append]
  obtain ⟨W1, hW1⟩ : ∃ W1, w.alloc (.cells v.cells 37) = W1 := ⟨_, rfl⟩
  obtain ⟨W2, hW2⟩ : ∃ W2, W1.alloc (.cells (pageCells noPage) 32) = W2 := ⟨_, rfl⟩
  obtain ⟨W3, hW3⟩ : ∃ W3, W2.alloc (.cells #[.int .i64 0] 41) = W3 := ⟨_, rfl⟩
  have hs1 : W1.heap.size = w.heap.size + 1 := by rw [← hW1]; simp
  have hs2 : W2.heap.size = w.heap.size + 1 + 1 := by rw [← hW2]; simp [hs1]
  have hs3 : W3.heap.size = w.heap.size + 1 + 1 + 1 := by rw [← hW3]; simp [hs2]
  have hA3 : Agrees All w W3 := by rw [← hW3, ← hW2, ← hW1]; exact (((Agrees.refl _ w).alloc _).alloc _).alloc _
  have hr0 : W3.heap[w.heap.size]? = some (.cells v.cells 37 (0, 0)) := by
    rw [← hW3, heap_alloc_old _ _ (by omega), ← hW2, heap_alloc_old _ _ (by omega), ← hW1]; exact World.alloc_heap_new w _
  have hr1 : W3.heap[w.heap.size + 1]? = some (.cells (pageCells noPage) 32 (0, 0)) := by
    rw [← hW3, heap_alloc_old _ _ (by omega), ← hW2, ← hs1]; exact World.alloc_heap_new W1 _
  have hr2 : W3.heap[w.heap.size + 1 + 1]? = some (.cells #[.int .i64 0] 41 (0, 0)) := by
    rw [← hW3, ← hs2]; exact World.alloc_heap_new W2 _
  have HM := Lib.hid (vasked_calls v d at' W3 (hv.agrees hA3 fun _ h => h))
  have HV := Lib.hid hv
  have HA3 := Lib.hid hA3
  have HR0 := Lib.hid hr0
  have HR1 := Lib.hid hr1
  have HR2 := Lib.hid hr2
  clear hv hA3 hr0 hr1 hr2
  go_wp2_with (first | (refine wpList_val rfl (ex_alloc rfl (.agg (pageCells noPage)) zero_page) ?_; rw [show (Value.agg (pageCells noPage)).cells = pageCells noPage from rfl, hW2, hs1]) | (refine wpList_val rfl (ex_load (ty := 37) rfl isAgg_disk w.heap.size 0 rfl v.cells rfl (v.load HR0.out)) ?_))
  refine HM.out.mono ?_
  rintro e W4 ⟨rfl, hag⟩
  have HA4 := Lib.hid (HA3.out.trans hag)
  have HQ0 := Lib.hid ((hag.block _ (Array.getElem?_eq_some_iff.1 HR0.out).1 trivial).trans HR0.out)
  have HQ1 := Lib.hid ((hag.block _ (Array.getElem?_eq_some_iff.1 HR1.out).1 trivial).trans HR1.out)
  have HQ2 := Lib.hid ((hag.block _ (Array.getElem?_eq_some_iff.1 HR2.out).1 trivial).trans HR2.out)
  have hsz4 : w.heap.size + 1 + 1 + 1 ≤ W4.heap.size := by have := hag.size; omega
  have hok := HV.out.ok
  have HRD : RowKit.Hid (d.read at' = if d.asked at' ≠ 0 then (noPage, d.asked at') else match d.waits at' with | p :: _ => (p, 0) | [] => if d.bad.contains at' then (noPage, 31) else (d.pages.getD at'.toNat noPage, 0)) := by
    exact Lib.hid rfl
  have HPL := Lib.hid (d.read_len hok at')
  generalize hrd : d.read at' = rd at *
  have HRE := Lib.hid hrd
  have hAX : RowKit.Hid (d.asked at' = 0 → (0 ≤ at' ∧ at' < (d.pages.length : Int))) := by
    refine Lib.hid fun h => ?_
    unfold Disk.asked at h
    split at h
    · cases h
    · rename_i hn
      have hb : decide (at' < 0) = false ∧ decide (d.size ≤ at') = false := by
        revert hn
        cases d.may <;> cases decide (at' < 0) <;> cases decide (d.size ≤ at') <;> simp
      have h1 := of_decide_eq_false hb.1
      have h2 := of_decide_eq_false hb.2
      unfold Disk.size at h2
      omega
  clear hag HR0 HR1 HR2 HM HA3 hW1 hW2 hW3 hs1 hs2 hs3 hrd
  generalize hask : d.asked at' = ask at *
  by_cases h0 : ask = 0
  · subst h0
    obtain ⟨W6, hW6⟩ : ∃ W6, (W4.alloc (.cells v.cells 37)).alloc (.cells #[.int .i64 at'] 3) = W6 := ⟨_, rfl⟩
    have hs6 : W6.heap.size = W4.heap.size + 2 := by rw [← hW6]; simp
    have hA6 : Agrees All W4 W6 := by rw [← hW6]; exact ((Agrees.refl _ W4).alloc _).alloc _
    have hd6 : W6.heap[W4.heap.size]? = some (.cells v.cells 37 (0, 0)) := by rw [← hW6, heap_alloc_old _ _ (by simp)]; exact World.alloc_heap_new W4 _
    have ha6 : W6.heap[W4.heap.size + 1]? = some (.cells #[.int .i64 at'] 3 (0, 0)) := by
      rw [← hW6]; have := World.alloc_heap_new (W4.alloc (.cells v.cells 37)) (.cells #[.int .i64 at'] 3); rwa [World.size_alloc] at this
    have hv6 : DiskAt (fun b => b < W6.heap.size ∧ b ≠ w.heap.size + 1 ∧ b ≠ w.heap.size + 1 + 1) W6 v d :=
      (HV.out.bound.agrees (HA4.out.trans hA6) fun _ _ => trivial).mono fun b hb => ⟨by omega, by omega, by omega⟩
    have HA6 := Lib.hid (HA4.out.trans hA6)
    have HQ0 := Lib.hid ((hA6.block _ (Array.getElem?_eq_some_iff.1 HQ0.out).1 trivial).trans HQ0.out)
    have HQ1' := Lib.hid ((hA6.block _ (Array.getElem?_eq_some_iff.1 HQ1.out).1 trivial).trans HQ1.out)
    have HQ2' := Lib.hid ((hA6.block _ (Array.getElem?_eq_some_iff.1 HQ2.out).1 trivial).trans HQ2.out)
    have HQ0' := HQ0
    rename_i HQ00
    have HZ := Lib.hid HQ00.out
    have ho := hAX.out rfl
    have HO := Lib.hid ho
    clear ho hAX hA6
    go_wp2_with (first | (go_at_call 69; refine (last_calls v at' _).mono ?_; rintro e w' ⟨rfl, rfl⟩) | (refine wpList_val rfl (ex_load (ty := 37) rfl isAgg_disk w.heap.size 0 rfl v.cells rfl (v.load HZ.out)) ?_))
    refine wp_rangeFunc_box rfl (Go.Proofs.enters_of Try.func75 (by kernel_rfl) rfl)
      (last1_iter (fun b => b < W6.heap.size ∧ b ≠ w.heap.size + 1 ∧ b ≠ w.heap.size + 1 + 1) W6.heap.size W6 W4.heap.size (W4.heap.size + 1) v d at' hd6 ha6 ⟨by omega, by omega, by omega⟩ ⟨by omega, by omega, by omega⟩ hv6 (fun b hb => hb.1) (Nat.le_refl _))
      (Agrees.refl _ _) (fun b hb => hb.1) (Nat.le_refl _) (fun _ => rfl)
      (fun b => b = w.heap.size + 1 ∨ b = w.heap.size + 1 + 1) (fun b hb => ⟨fun h => by rcases hb with hb | hb; exact h.2.1 hb; exact h.2.2 hb, by omega⟩)
      (fun k C W => C = (fun b => b = w.heap.size + 1 ∨ b = w.heap.size + 1 + 1) ∧ k = 0 ∧ Agrees All W6 W)
      (fun c k C W => C = (fun b => b = w.heap.size + 1 ∨ b = w.heap.size + 1 + 1) ∧ c = .ret ∧ k = 0 ∧ ReadW w ((d.waits at').getD k []) 0 W)
      ?stabI ?stabX ⟨rfl, rfl, Agrees.refl _ _⟩
      (fun k b => { tmps := #[.agg v.cells, .int .i64 at', .pointer (some ⟨w.heap.size, 0, none⟩), undef, .pointer (some ⟨w.heap.size + 1, 0, none⟩), .pointer (some ⟨w.heap.size + 1 + 1, 0, none⟩), .int .i64 0, .pointer (some ⟨b, 0, none⟩), .agg v.cells, .int .i64 at', .int .i64 0, .int .i64 0, .bool false, undef, undef, .agg v.cells, .int .i64 at',
        .func (.func 75) #[] #[.pointer (some ⟨W4.heap.size, 0, none⟩), .pointer (some ⟨W4.heap.size + 1, 0, none⟩)], .agg (pageCells ((d.waits at').getD k [])), undef, undef, undef, undef, undef, undef, undef, undef, undef, undef, undef], defers := [] })
      (fun k => pageCells ((d.waits at').getD k [])) 32 ?assign ?body ?done ?stop
    case stabI =>
      rintro k C Wa Wb ⟨rfl, rfl, h⟩ hg
      exact ⟨rfl, rfl, h.trans' hg (fun b hb _ => .inr hb)⟩
    case stabX =>
      rintro c k C Wa Wb ⟨rfl, rfl, rfl, h⟩ hg
      refine ⟨rfl, rfl, rfl, ⟨h.ag.trans' hg (fun b hb _ => .inr (by omega)), (hg.block _ (Array.getElem?_eq_some_iff.1 h.page).1 (.inl (.inl rfl))).trans h.page, (hg.block _ (Array.getElem?_eq_some_iff.1 h.err).1 (.inl (.inr rfl))).trans h.err⟩⟩
    case assign =>
      intro l' k Wa K hkn hK
      have HXL := Lib.hid (d.waits_len hok at' k hkn)
      generalize (d.waits at').getD k [] = p at *
      have HXS := Lib.hid (show (pageCells p).size = 256 by rw [pageCells_size]; exact HXL.out)
      have HNS := Lib.hid (show (pageCells noPage).size = 256 by rw [pageCells_size]; exact noPage_len)
      have hrow := World.alloc_heap_new Wa (.cells (pageCells noPage) 32)
      have HROW := Lib.hid hrow
      have HK := Lib.hid (hK Wa.heap.size ((Wa.alloc (.cells (pageCells noPage) 32)).setRow Wa.heap.size (pageCells p)) (((Agrees.refl All Wa).alloc _).setRow (.inr (Nat.le_refl _)) _) (Nat.le_refl _) (setRow_heap _ _ _ _ _ _ hrow))
      clear hK hrow
      rw [fold1]
      change Code.wpIn (Fence.wide.inRound l') 0 Try.prog _ _ ({ tmps := #[.agg v.cells, .int .i64 at', .pointer (some ⟨w.heap.size, 0, none⟩), undef, .pointer (some ⟨w.heap.size + 1, 0, none⟩), .pointer (some ⟨w.heap.size + 1 + 1, 0, none⟩), .int .i64 0, undef, .agg v.cells, .int .i64 at', .int .i64 0, .int .i64 0, .bool false, undef, undef, .agg v.cells, .int .i64 at',
        .func (.func 75) #[] #[.pointer (some ⟨W4.heap.size, 0, none⟩), .pointer (some ⟨W4.heap.size + 1, 0, none⟩)], .agg (pageCells p), undef, undef, undef, undef, undef, undef, undef, undef, undef, undef, undef], defers := [] } : Act) Wa
      gi_wp2_with (first | (refine wpListIn_val (fun _ => trivial) rfl rfl (ex_alloc rfl (.agg (pageCells noPage)) zero_page) ?_; rw [show (Value.agg (pageCells noPage)).cells = pageCells noPage from rfl]) | (refine wpListIn_unit (fun _ => trivial) rfl rfl (ex_storeAll (ty := 32) rfl isAgg_page.2 Wa.heap.size rfl (pageCells p) (pageCells noPage) rfl HXS.out HROW.out HNS.out (pageCells_one p)) ?_))
      exact HK.out
    case body =>
      rintro l' k bx C Wa hk ⟨rfl, rfl, h⟩ hC hsz hbx hnb hlo
      have HXL := Lib.hid (d.waits_len hok at' 0 hk)
      obtain ⟨p, hp⟩ : ∃ p, (d.waits at').getD 0 [] = p := ⟨_, rfl⟩
      rw [hp] at HXL hbx ⊢
      have HXS := Lib.hid (show (pageCells p).size = 256 by rw [pageCells_size]; exact HXL.out)
      have HNS := Lib.hid (show (pageCells noPage).size = 256 by rw [pageCells_size]; exact noPage_len)
      have HPC := Lib.hid (show ∀ j, j < 256 → Wa.cell? ⟨bx, 0 + j, none⟩ = (pageCells p)[j]? from fun j _ => by rw [Nat.zero_add]; exact cell_of_row _ _ _ _ _ _ hbx)
      have hq1 := (h.block _ (Array.getElem?_eq_some_iff.1 HQ1'.out).1 trivial).trans HQ1'.out
      have hq2 := (h.block _ (Array.getElem?_eq_some_iff.1 HQ2'.out).1 trivial).trans HQ2'.out
      have HW := Lib.hid (ReadW.put (p := p) (x := 0) (ReadW.mk (HA6.out.trans h) hq1 hq2))
      have HGO := Lib.hid (show Agrees (fun b => ¬ (b = w.heap.size + 1 ∨ b = w.heap.size + 1 + 1)) Wa ((Wa.setRow (w.heap.size + 1) (pageCells p)).setCell ⟨w.heap.size + 1 + 1, 0, none⟩ (.int .i64 0)) from ((Agrees.refl _ Wa).setRow (.inl (fun h => h (.inl rfl))) _).setCell (.inl (fun h => h (.inr rfl))) _)
      obtain ⟨W5, hW5⟩ : ∃ W5, Wa.setRow (w.heap.size + 1) (pageCells p) = W5 := ⟨_, rfl⟩
      have hq25 : W5.heap[w.heap.size + 1 + 1]? = some (.cells #[.int .i64 0] 41 (0, 0)) := by rw [← hW5, setRow_other _ _ _ _ (by omega)]; exact hq2
      have c2 : W5.cell? ⟨w.heap.size + 1 + 1, 0, none⟩ = some (.int .i64 0) := by rw [cell_of_row _ _ _ _ _ _ hq25]; rfl
      have f2 : W5.frozen? ⟨w.heap.size + 1 + 1, 0, none⟩ = false := frozen_of_row _ _ _ _ _ hq25
      have HQ := Lib.hid hq1
      have HSZ5 := Lib.hid (show W5.heap.size = Wa.heap.size by rw [← hW5]; simp)
      have HCS := Lib.hid hC
      rw [hW5] at HW HGO
      clear h hC hbx hnb hq1 hq2 hq25
      gi_wp2_with (first | (refine wpListIn_val (fun _ => trivial) rfl rfl (ex_load (ty := 32) rfl isAgg_page bx 0 rfl (pageCells p) HXS.out HPC.out) ?_) | (refine wpListIn_unit (fun _ => trivial) rfl rfl (ex_storeAll (ty := 32) rfl isAgg_page.2 (w.heap.size + 1) rfl (pageCells p) (pageCells noPage) rfl HXS.out HQ.out HNS.out (pageCells_one p)) ?_; rw [hW5]))
      exact ⟨HGO.out, _, ⟨rfl, rfl, rfl, (show ReadW w ((d.waits at').getD 0 []) 0 _ by rw [hp]; exact HW.out)⟩, fun b hb => ⟨by have := HCS.out b hb; have e := HSZ5.out; simp [World.setCell]; omega, .inl hb⟩⟩
    case done =>
      rintro D C Wa hD ⟨rfl, h0, h⟩ hK hnD
      have HE := Lib.hid (List.length_eq_zero_iff.1 h0)
      have HQ1 := Lib.hid ((h.block _ (Array.getElem?_eq_some_iff.1 HQ1'.out).1 trivial).trans HQ1'.out)
      have HQ2 := Lib.hid ((h.block _ (Array.getElem?_eq_some_iff.1 HQ2'.out).1 trivial).trans HQ2'.out)
      have HQD := Lib.hid ((h.block _ (Array.getElem?_eq_some_iff.1 HQ0'.out).1 trivial).trans HQ0'.out)
      have HAA := Lib.hid (HA6.out.trans h)
      have HK := Lib.hid hK
      have HRW := Lib.hid (ReadW.mk HAA.out HQ1.out HQ2.out)
      have HVA := Lib.hid (HV.out.agrees HAA.out fun _ h => h)
      have HRD0 : RowKit.Hid (rd = if d.bad.contains at' then (noPage, 31) else (d.pages.getD at'.toNat noPage, 0)) := by
        refine Lib.hid ?_
        rw [HRD.out, if_neg (by simp), HE.out]
      obtain ⟨pa, pn, pc, ca, cn, cc, ba, bn, bc, off⟩ := v
      have c2 : Wa.cell? ⟨w.heap.size, 2, none⟩ = some (.slice ba bn bc) := by rw [cell_of_row _ _ _ _ _ _ HQD.out]; rfl
      have c0 : Wa.cell? ⟨w.heap.size, 0, none⟩ = some (.slice pa pn pc) := by rw [cell_of_row _ _ _ _ _ _ HQD.out]; rfl
      have HCC := Lib.hid (contains_calls ba bn bc d.bad at' Wa HVA.out.bn HVA.out.bad)
      clear h0 h hK hnD hd6 ha6 hv6 hW6 HRD HQ0 HQ0' HQ1' HQ2' HZ HQ00
      go_wp2_with fail
      refine HCC.out.mono ?_
      rintro e Wc ⟨rfl, rfl⟩
      have HNS := Lib.hid (show (pageCells noPage).size = 256 by rw [pageCells_size]; exact noPage_len)
      generalize d.bad.contains at' = cb at *
      cases cb
      · have ho := HO.out
        obtain ⟨m, rfl⟩ : ∃ m : Nat, at' = m := ⟨at'.toNat, by omega⟩
        have hm : m < d.pages.length := by omega
        obtain ⟨p, hp⟩ : ∃ p, d.pages[m]? = some p := ⟨_, List.getElem?_eq_getElem hm⟩
        have hpl := hok.page p (List.mem_of_getElem? hp)
        obtain ⟨b, off', rfl, _, hbl, hc⟩ := HVA.out.pages.elem (f := pageL) (fun y hy => by rw [pageL_length, hok.page y hy]) (by omega) hp
        have HPC := Lib.hid (show ∀ j, j < 256 → Wa.cell? ⟨b, off' + m * 256 + j, none⟩ = (pageCells p)[j]? from fun j hj => by rw [← pageL_get]; exact hc j hj)
        have HPS := Lib.hid (show (pageCells p).size = 256 by rw [pageCells_size, hpl])
        have hmn : m < pn := by have := HVA.out.pn; simp only at this; omega
        have HR : RowKit.Hid (rd = (p, 0)) := by
          refine Lib.hid ?_
          rw [HRD0.out, if_neg (by simp), List.getD_eq_getElem?_getD, Int.toNat_natCast, hp]; rfl
        have HPLL := Lib.hid hpl
        obtain ⟨W5, hW5⟩ : ∃ W5, Wa.setRow (w.heap.size + 1) (pageCells p) = W5 := ⟨_, rfl⟩
        have hq25 : W5.heap[w.heap.size + 1 + 1]? = some (.cells #[.int .i64 0] 41 (0, 0)) := by rw [← hW5, setRow_other _ _ _ _ (by omega)]; exact HQ2.out
        have c2 : W5.cell? ⟨w.heap.size + 1 + 1, 0, none⟩ = some (.int .i64 0) := by rw [cell_of_row _ _ _ _ _ _ hq25]; rfl
        have f2 : W5.frozen? ⟨w.heap.size + 1 + 1, 0, none⟩ = false := frozen_of_row _ _ _ _ _ hq25
        have HF := Lib.hid (((HRW.out.put (p := p) (x := 0))).obj (D := D) (by omega) (Obj.deferred none))
        have HK5 := Lib.hid (show (W5.setCell ⟨w.heap.size + 1 + 1, 0, none⟩ (.int .i64 0)).heap[D]? = some (.deferred (some [])) by
          rw [heap_setCell_other _ _ _ _ (by show D ≠ w.heap.size + 1 + 1; omega), ← hW5, setRow_other _ _ _ _ (by omega)]; exact HK.out)
        rw [hW5] at HF
        clear hc hp hpl hq25 HCC ho hm
        go_wp2_with (first | (refine wpList_val rfl (ex_load (ty := 32) rfl isAgg_page b (off' + m * 256) rfl (pageCells p) HPS.out HPC.out) ?_) | (refine wpList_unit rfl (ex_storeAll (ty := 32) rfl isAgg_page.2 (w.heap.size + 1) rfl (pageCells p) (pageCells noPage) rfl HPS.out HQ1.out HNS.out (pageCells_one p)) ?_; rw [hW5]))
        refine ⟨by simp, .inl ⟨_, _, rfl, run_takeDeferred HK5.out, ?_⟩⟩
        exact ⟨_, HF.out.results HPLL.out _ rfl rfl, by rw [HRE.out, HR.out], HF.out.ag⟩
      · have HR : RowKit.Hid (rd = (noPage, 31)) := by
          refine Lib.hid ?_
          rw [HRD0.out, if_pos rfl]
        obtain ⟨W5, hW5⟩ : ∃ W5, Wa.setRow (w.heap.size + 1) (pageCells noPage) = W5 := ⟨_, rfl⟩
        have hq25 : W5.heap[w.heap.size + 1 + 1]? = some (.cells #[.int .i64 0] 41 (0, 0)) := by rw [← hW5, setRow_other _ _ _ _ (by omega)]; exact HQ2.out
        have c2 : W5.cell? ⟨w.heap.size + 1 + 1, 0, none⟩ = some (.int .i64 0) := by rw [cell_of_row _ _ _ _ _ _ hq25]; rfl
        have f2 : W5.frozen? ⟨w.heap.size + 1 + 1, 0, none⟩ = false := frozen_of_row _ _ _ _ _ hq25
        have HF := Lib.hid (((HRW.out.put (p := noPage) (x := 31))).obj (D := D) (by omega) (Obj.deferred none))
        have HK5 := Lib.hid (show (W5.setCell ⟨w.heap.size + 1 + 1, 0, none⟩ (.int .i64 31)).heap[D]? = some (.deferred (some [])) by
          rw [heap_setCell_other _ _ _ _ (by show D ≠ w.heap.size + 1 + 1; omega), ← hW5, setRow_other _ _ _ _ (by omega)]; exact HK.out)
        rw [hW5] at HF
        clear hq25 HCC
        go_wp2_with (first | (refine wpList_val rfl (ex_build0 rfl) ?_) | (refine wpList_unit rfl (ex_storeAll (ty := 32) rfl isAgg_page.2 (w.heap.size + 1) rfl (pageCells noPage) (pageCells noPage) rfl HNS.out HQ1.out HNS.out (pageCells_one _)) ?_; rw [hW5]))
        refine ⟨by simp, .inl ⟨_, _, rfl, run_takeDeferred HK5.out, ?_⟩⟩
        exact ⟨_, HF.out.results noPage_len _ rfl rfl, by rw [HRE.out, HR.out], HF.out.ag⟩
    case stop =>
      rintro D k c C Wa hD hk ⟨rfl, rfl, rfl, h⟩ hK hnD
      have HK := Lib.hid hK
      have HW := Lib.hid h
      have HXL := Lib.hid (d.waits_len hok at' 0 hk)
      have HR : RowKit.Hid (rd = ((d.waits at').getD 0 [], 0)) := by
        refine Lib.hid ?_
        rw [HRD.out, if_neg (by simp)]
        cases hw : d.waits at' with
        | nil => rw [hw] at hk; simp at hk
        | cons p l => rfl
      clear h hK hnD hd6 ha6 hv6 hW6 HRD
      go_wp2
      refine ⟨by simp, .inl ⟨_, _, rfl, run_takeDeferred HK.out, ?_⟩⟩
      have HF := HW.out.obj (D := D) (by omega) (Obj.deferred none)
      exact ⟨_, HF.results HXL.out _ rfl rfl, by rw [HRE.out, HR.out], HF.ag⟩
  · have hne : (ask != 0) = true := by simpa using h0
    obtain ⟨W5, hW5⟩ : ∃ W5, W4.setRow (w.heap.size + 1) (pageCells noPage) = W5 := ⟨_, rfl⟩
    have hA5 : Agrees (fun b => b < w.heap.size + 1 ∨ w.heap.size + 1 + 1 ≤ b) W4 W5 := by rw [← hW5]; exact (Agrees.refl _ _).setRow (.inl (by omega)) _
    have hq2 := (hA5.block _ (Array.getElem?_eq_some_iff.1 HQ2.out).1 (.inr (Nat.le_refl _))).trans HQ2.out
    have c2 : W5.cell? ⟨w.heap.size + 1 + 1, 0, none⟩ = some (.int .i64 0) := by rw [cell_of_row _ _ _ _ _ _ hq2]; rfl
    have f2 : W5.frozen? ⟨w.heap.size + 1 + 1, 0, none⟩ = false := frozen_of_row _ _ _ _ _ hq2
    have HQ5 := Lib.hid hq2
    have HA5 := Lib.hid (show Agrees All w W5 by rw [← hW5]; exact HA4.out.setRow (.inr (by omega)) _)
    have HP5 := Lib.hid (show W5.heap[w.heap.size + 1]? = some (.cells (pageCells noPage) 32 (0, 0)) by rw [← hW5]; exact setRow_heap _ _ _ _ _ _ HQ1.out)
    have HR : RowKit.Hid (rd = (noPage, ask)) := by
      refine Lib.hid ?_
      rw [HRD.out, if_pos h0]
    have hsz : (pageCells noPage).size = 256 := by rw [pageCells_size]; exact noPage_len
    have HSZ := Lib.hid hsz
    clear hq2 hA5 hAX hsz
    go_wp2_with (first | (refine wpList_val rfl (ex_build0 rfl) ?_) | (refine wpList_unit rfl (ex_storeAll (ty := 32) rfl isAgg_page.2 (w.heap.size + 1) rfl (pageCells noPage) (pageCells noPage) rfl HSZ.out HQ1.out HSZ.out (pageCells_one _)) ?_; rw [hW5]))
    have HW := Lib.hid (ReadW.put (p := noPage) (x := ask) (ReadW.mk HA4.out HQ1.out HQ2.out))
    rw [hW5] at HW
    exact ⟨_, HW.out.results noPage_len _ rfl rfl, by rw [HRE.out, HR.out], HW.out.ag⟩
end Suture
/-
  A DISK COPIED: vdev.copied, vdev.Copy.
  Conditions: none beyond the disk's own reading; its lists are not longer than 10000.
-/
namespace Suture
open Go Go.RowKit Go.Proofs
attribute [local go_sem] Oper.semAt_some

def noPageV : Value := .agg (pageCells noPage)
def noWrV : Value := .agg zeroWr
theorem infoPage : (Try.prog.info? 32).map (fun i => (i.zero, i.size, i.bytes)) = some (some noPageV, 256, 256) := by
  unfold noPageV; rw [pageCells_def]; kernel_rfl
theorem infoWrite : (Try.prog.info? 75).map (fun i => (i.zero, i.size, i.bytes)) = some (some noWrV, 257, 264) := by
  unfold noWrV zeroWr wrCells; kernel_rfl
theorem infoInt1 : (Try.prog.info? 3).map (fun i => (i.zero, i.size, i.bytes)) = some (some (.int .i64 0), 1, 8) := by kernel_rfl
theorem noPageV_size : noPageV.cells.size = 256 := by
  show (pageCells noPage).size = 256
  rw [pageCells_size]; exact noPage_len
theorem noWrV_size : noWrV.cells.size = 257 := zeroWr_size
theorem ownsRow_agrees {R : Nat → Prop} {W W' : World} {base : Nat} {e : TypeId} {size n : Nat} {v : Value} {xs : List Value} (h : W.ownsRow base e size v n xs) (g : Agrees R W W') (hR : ∀ b, base ≤ b → R b) : W'.ownsRow base e size v n xs := by
  refine ⟨h.1, ?_⟩
  rcases h.2 with hn | ⟨gb, cap, cur, rfl, hb, hg, hr⟩
  · exact .inl hn
  · exact .inr ⟨gb, cap, cur, rfl, hb, (g.block _ (Array.getElem?_eq_some_iff.1 hg).1 (hR _ hb)).trans hg, hr⟩
theorem ownsRow_base {W : World} {base base' : Nat} {e : TypeId} {size n : Nat} {v : Value} {xs : List Value} (h : W.ownsRow base e size v n xs) (hb : base' ≤ base) : W.ownsRow base' e size v n xs := by
  refine ⟨h.1, ?_⟩
  rcases h.2 with hn | ⟨g, cap, cur, rfl, h1, hr⟩
  · exact .inl hn
  · exact .inr ⟨g, cap, cur, rfl, Nat.le_trans hb h1, hr⟩
theorem Agrees.grownV {A W W' : World} {row : Option Nat} (h : Agrees All A W) (g : W.grownBy W' row) (hr : ∀ b, row = some b → A.heap.size ≤ b) : Agrees All A W' :=
  h.grown' g (fun b hb => .inl (hr b hb))
theorem own_one {W : World} {base : Nat} {e : TypeId} {size n : Nat} {v : Value} {xs : List Value} (h : W.ownsRow base e size v n xs) : v.oneCell' = true := by
  rcases h.2 with ⟨rfl, _⟩ | ⟨g, cap, cur, rfl, _⟩ <;> rfl

set_option maxHeartbeats 400000 in
theorem copiedp_calls (a : Option Addr) (n cap : Nat) (cs : List Value) (w : World) (hn : n ≤ 10000) (hv : CellsAt All w (.slice a n cap) 256 n cs) (h1 : ∀ u ∈ cs, u.oneCell' = true) :
    Calls Try.prog 78 #[.slice a n cap] w fun e w' => ∃ v, e = .returned v ∧ w'.ownsRow w.heap.size 32 256 v n cs ∧ Agrees All w w' := by
  obtain ⟨i0, hi, hz0, hz1, hz2⟩ := info_parts infoPage
  obtain ⟨W1, hW1⟩ : ∃ W1, w.alloc (.cells #[] 32) = W1 := ⟨_, rfl⟩
  have hA1 : Agrees All w W1 := by rw [← hW1]; exact (Agrees.refl _ w).alloc _
  have HV := Lib.hid (hv.agrees hA1 fun _ h => h)
  have HO := Lib.hid (show W1.ownsRow w.heap.size 32 256 (.slice (some ⟨w.heap.size, 0, none⟩) 0 0) 0 [] from ⟨rfl, .inr ⟨w.heap.size, 0, #[], rfl, Nat.le_refl _, by rw [← hW1]; exact World.alloc_heap_new _ _, Nat.le_refl _, Nat.zero_le _, rfl, rfl⟩⟩)
  have hs1 : w.heap.size ≤ W1.heap.size := hA1.size
  have HA1 := Lib.hid hA1
  have H1 := Lib.hid h1
  clear hv hA1 h1
  go_enter Try.func78, Try.ntmps78
  go_wp2_with (at_builtin; refine wpList_append_from rfl _ _ 33 rfl w.heap.size 32 i0 noPageV 256 256 Try.underlying33 hi hz0 hz1 hz2 noPageV_size (by decide) (.slice (some ⟨w.heap.size, 0, none⟩) 0 0) 0 [] rfl HO.out (.slice a n cap) n cs rfl HV.out H1.out (by simp only [maxLen]; omega) (by omega) hs1 ?_)
  intro v2 w2 hown hgr
  have HW := Lib.hid (show w2.ownsRow w.heap.size 32 256 v2 n cs by simpa using hown)
  have HA2 := Lib.hid (HA1.out.grownV hgr (fun b hb => by simp [Value.ownBlock] at hb; omega))
  clear hown hgr
  go_wp2_with fail
  go_ret
  exact ⟨_, rfl, HW.out, HA2.out⟩

set_option maxHeartbeats 400000 in
theorem copiedw_calls (a : Option Addr) (n cap : Nat) (cs : List Value) (w : World) (hn : n ≤ 10000) (hv : CellsAt All w (.slice a n cap) 257 n cs) (h1 : ∀ u ∈ cs, u.oneCell' = true) :
    Calls Try.prog 79 #[.slice a n cap] w fun e w' => ∃ v, e = .returned v ∧ w'.ownsRow w.heap.size 75 257 v n cs ∧ Agrees All w w' := by
  obtain ⟨i0, hi, hz0, hz1, hz2⟩ := info_parts infoWrite
  obtain ⟨W1, hW1⟩ : ∃ W1, w.alloc (.cells #[] 75) = W1 := ⟨_, rfl⟩
  have hA1 : Agrees All w W1 := by rw [← hW1]; exact (Agrees.refl _ w).alloc _
  have HV := Lib.hid (hv.agrees hA1 fun _ h => h)
  have HO := Lib.hid (show W1.ownsRow w.heap.size 75 257 (.slice (some ⟨w.heap.size, 0, none⟩) 0 0) 0 [] from ⟨rfl, .inr ⟨w.heap.size, 0, #[], rfl, Nat.le_refl _, by rw [← hW1]; exact World.alloc_heap_new _ _, Nat.le_refl _, Nat.zero_le _, rfl, rfl⟩⟩)
  have hs1 : w.heap.size ≤ W1.heap.size := hA1.size
  have HA1 := Lib.hid hA1
  have H1 := Lib.hid h1
  clear hv hA1 h1
  go_enter Try.func79, Try.ntmps79
  go_wp2_with (at_builtin; refine wpList_append_from rfl _ _ 34 rfl w.heap.size 75 i0 noWrV 257 264 Try.underlying34 hi hz0 hz1 hz2 noWrV_size (by decide) (.slice (some ⟨w.heap.size, 0, none⟩) 0 0) 0 [] rfl HO.out (.slice a n cap) n cs rfl HV.out H1.out (by simp only [maxLen]; omega) (by omega) hs1 ?_)
  intro v2 w2 hown hgr
  have HW := Lib.hid (show w2.ownsRow w.heap.size 75 257 v2 n cs by simpa using hown)
  have HA2 := Lib.hid (HA1.out.grownV hgr (fun b hb => by simp [Value.ownBlock] at hb; omega))
  clear hown hgr
  go_wp2_with fail
  go_ret
  exact ⟨_, rfl, HW.out, HA2.out⟩

set_option maxHeartbeats 400000 in
theorem copiedi_calls (a : Option Addr) (n cap : Nat) (cs : List Value) (w : World) (hn : n ≤ 10000) (hv : CellsAt All w (.slice a n cap) 1 n cs) (h1 : ∀ u ∈ cs, u.oneCell' = true) :
    Calls Try.prog 80 #[.slice a n cap] w fun e w' => ∃ v, e = .returned v ∧ w'.ownsRow w.heap.size 3 1 v n cs ∧ Agrees All w w' := by
  obtain ⟨i0, hi, hz0, hz1, hz2⟩ := info_parts infoInt1
  obtain ⟨W1, hW1⟩ : ∃ W1, w.alloc (.cells #[] 3) = W1 := ⟨_, rfl⟩
  have hA1 : Agrees All w W1 := by rw [← hW1]; exact (Agrees.refl _ w).alloc _
  have HV := Lib.hid (hv.agrees hA1 fun _ h => h)
  have HO := Lib.hid (show W1.ownsRow w.heap.size 3 1 (.slice (some ⟨w.heap.size, 0, none⟩) 0 0) 0 [] from ⟨rfl, .inr ⟨w.heap.size, 0, #[], rfl, Nat.le_refl _, by rw [← hW1]; exact World.alloc_heap_new _ _, Nat.le_refl _, Nat.zero_le _, rfl, rfl⟩⟩)
  have hs1 : w.heap.size ≤ W1.heap.size := hA1.size
  have HA1 := Lib.hid hA1
  have H1 := Lib.hid h1
  clear hv hA1 h1
  go_enter Try.func80, Try.ntmps80
  go_wp2_with (at_builtin; refine wpList_append_from rfl _ _ 35 rfl w.heap.size 3 i0 (.int .i64 0) 1 8 Try.underlying35 hi hz0 hz1 hz2 rfl (by decide) (.slice (some ⟨w.heap.size, 0, none⟩) 0 0) 0 [] rfl HO.out (.slice a n cap) n cs rfl HV.out H1.out (by simp only [maxLen]; omega) (by omega) hs1 ?_)
  intro v2 w2 hown hgr
  have HW := Lib.hid (show w2.ownsRow w.heap.size 3 1 v2 n cs by simpa using hown)
  have HA2 := Lib.hid (HA1.out.grownV hgr (fun b hb => by simp [Value.ownBlock] at hb; omega))
  clear hown hgr
  go_wp2_with fail
  go_ret
  exact ⟨_, rfl, HW.out, HA2.out⟩

theorem onePages : IsOne Try.prog 33 := ⟨⟨_, Try.underlying33, rfl⟩, by kernel_rfl⟩
theorem oneWrites : IsOne Try.prog 34 := ⟨⟨_, Try.underlying34, rfl⟩, by kernel_rfl⟩
theorem oneIntsL : IsOne Try.prog 35 := ⟨⟨_, Try.underlying35, rfl⟩, by kernel_rfl⟩

/-- the disk's box while it is copied -/
def CopyBox (pv cv bv : Value) (off : Bool) (L : Nat → Bool) (vals : Nat → Value) : Array Value :=
  #[if L 10 = true then vals 2 else pv, if L 12 = true then vals 5 else cv, if L 14 = true then vals 8 else bv, .bool off]
structure CopyW (W0 : World) (B : Nat) (pv cv bv : Value) (off : Bool) (pn cn bn : Nat) (ps cs bs : List Value) (L : Nat → Bool) (vals : Nat → Value) (W : World) : Prop where
  ag : Agrees (fun b => b ≠ B) W0 W
  box : W.heap[B]? = some (.cells (CopyBox pv cv bv off L vals) 37 (0, 0))
  lo : B < W0.heap.size
  own0 : L 2 = true → W.ownsRow W0.heap.size 32 256 (vals 2) pn ps
  own1 : L 5 = true → W.ownsRow W0.heap.size 75 257 (vals 5) cn cs
  own2 : L 8 = true → W.ownsRow W0.heap.size 3 1 (vals 8) bn bs
section
variable {W0 : World} {B : Nat} {pv cv bv : Value} {off : Bool} {pn cn bn : Nat} {ps cs bs : List Value} {L : Nat → Bool} {vals : Nat → Value} {W : World}
def copyFree (i : Nat) : Bool := i != 2 && i != 5 && i != 8 && i != 10 && i != 12 && i != 14
theorem CopyW.other (h : CopyW W0 B pv cv bv off pn cn bn ps cs bs L vals W) {i : Nat} (hi : copyFree i = true) (v : Value) : CopyW W0 B pv cv bv off pn cn bn ps cs bs (setL L i) (updV vals i v) W := by
  simp only [copyFree, Bool.and_eq_true, bne_iff_ne, ne_eq] at hi
  obtain ⟨⟨⟨⟨⟨h2, h5⟩, h8⟩, h10⟩, h12⟩, h14⟩ := hi
  have hL : ∀ j, i ≠ j → setL L i j = L j := fun j hj => by unfold setL; rw [if_neg (fun e => hj e.symm)]
  have hv : ∀ j, i ≠ j → updV vals i v j = vals j := fun j hj => by unfold updV; rw [if_neg (fun e => hj e.symm)]
  refine ⟨h.ag, ?_, h.lo, ?_, ?_, ?_⟩
  · have := h.box
    unfold CopyBox at this ⊢
    rw [hL 10 h10, hL 12 h12, hL 14 h14, hv 2 h2, hv 5 h5, hv 8 h8]; exact this
  · rw [hL 2 h2, hv 2 h2]; exact h.own0
  · rw [hL 5 h5, hv 5 h5]; exact h.own1
  · rw [hL 8 h8, hv 8 h8]; exact h.own2
theorem CopyW.agrees (h : CopyW W0 B pv cv bv off pn cn bn ps cs bs L vals W) {W' : World} (g : Agrees All W W') : CopyW W0 B pv cv bv off pn cn bn ps cs bs L vals W' :=
  ⟨h.ag.trans g.weak, (g.block _ (Array.getElem?_eq_some_iff.1 h.box).1 trivial).trans h.box, h.lo, fun e => ownsRow_agrees (h.own0 e) g fun _ _ => trivial, fun e => ownsRow_agrees (h.own1 e) g fun _ _ => trivial, fun e => ownsRow_agrees (h.own2 e) g fun _ _ => trivial⟩
theorem CopyW.call0 (h : CopyW W0 B pv cv bv off pn cn bn ps cs bs L vals W) (_ : L 2 = false) {v : Value} {W' : World} (hown : W'.ownsRow W.heap.size 32 256 v pn ps) (g : Agrees All W W') (hS : L 10 = false) :
    CopyW W0 B pv cv bv off pn cn bn ps cs bs (setL L 2) (updV vals 2 v) W' := by
  have h' := h.agrees g
  refine ⟨h'.ag, ?_, h.lo, ?_, ?_, ?_⟩
  · have := h'.box
    unfold CopyBox at this ⊢
    simpa [setL, updV, hS] using this
  · intro _
    simp only [updV, if_true]
    exact ownsRow_base hown h.ag.size
  · intro e; simpa [updV] using h'.own1 (by simpa [setL] using e)
  · intro e; simpa [updV] using h'.own2 (by simpa [setL] using e)
theorem CopyW.store0 (h : CopyW W0 B pv cv bv off pn cn bn ps cs bs L vals W) (_ : L 10 = false) : CopyW W0 B pv cv bv off pn cn bn ps cs bs (setL L 10) (updV vals 10 undef) (W.setCell ⟨B, 0 + 0, none⟩ (vals 2)) := by
  have hA : Agrees (fun b => b ≠ B) W (W.setCell ⟨B, 0 + 0, none⟩ (vals 2)) := (Agrees.refl _ W).setCell (.inl (fun h => h rfl)) _
  have hlo := h.lo
  refine ⟨h.ag.trans hA, ?_, h.lo, ?_, ?_, ?_⟩
  · rw [heap_setCell_same _ _ _ _ _ _ h.box]
    unfold CopyBox
    simp [setL, updV]
  · intro e
    have e' : L 2 = true := by simpa [setL] using e
    simpa [updV] using ownsRow_agrees (h.own0 e') hA (fun b hb => by omega)
  · intro e
    have e' : L 5 = true := by simpa [setL] using e
    simpa [updV] using ownsRow_agrees (h.own1 e') hA (fun b hb => by omega)
  · intro e
    have e' : L 8 = true := by simpa [setL] using e
    simpa [updV] using ownsRow_agrees (h.own2 e') hA (fun b hb => by omega)
theorem CopyW.call1 (h : CopyW W0 B pv cv bv off pn cn bn ps cs bs L vals W) (_ : L 5 = false) {v : Value} {W' : World} (hown : W'.ownsRow W.heap.size 75 257 v cn cs) (g : Agrees All W W') (hS : L 12 = false) :
    CopyW W0 B pv cv bv off pn cn bn ps cs bs (setL L 5) (updV vals 5 v) W' := by
  have h' := h.agrees g
  refine ⟨h'.ag, ?_, h.lo, ?_, ?_, ?_⟩
  · have := h'.box
    unfold CopyBox at this ⊢
    simpa [setL, updV, hS] using this
  · intro e; simpa [updV] using h'.own0 (by simpa [setL] using e)
  · intro _
    simp only [updV, if_true]
    exact ownsRow_base hown h.ag.size
  · intro e; simpa [updV] using h'.own2 (by simpa [setL] using e)
theorem CopyW.store1 (h : CopyW W0 B pv cv bv off pn cn bn ps cs bs L vals W) (_ : L 12 = false) : CopyW W0 B pv cv bv off pn cn bn ps cs bs (setL L 12) (updV vals 12 undef) (W.setCell ⟨B, 0 + 1, none⟩ (vals 5)) := by
  have hA : Agrees (fun b => b ≠ B) W (W.setCell ⟨B, 0 + 1, none⟩ (vals 5)) := (Agrees.refl _ W).setCell (.inl (fun h => h rfl)) _
  have hlo := h.lo
  refine ⟨h.ag.trans hA, ?_, h.lo, ?_, ?_, ?_⟩
  · rw [heap_setCell_same _ _ _ _ _ _ h.box]
    unfold CopyBox
    simp [setL, updV]
  · intro e
    have e' : L 2 = true := by simpa [setL] using e
    simpa [updV] using ownsRow_agrees (h.own0 e') hA (fun b hb => by omega)
  · intro e
    have e' : L 5 = true := by simpa [setL] using e
    simpa [updV] using ownsRow_agrees (h.own1 e') hA (fun b hb => by omega)
  · intro e
    have e' : L 8 = true := by simpa [setL] using e
    simpa [updV] using ownsRow_agrees (h.own2 e') hA (fun b hb => by omega)
theorem CopyW.call2 (h : CopyW W0 B pv cv bv off pn cn bn ps cs bs L vals W) (_ : L 8 = false) {v : Value} {W' : World} (hown : W'.ownsRow W.heap.size 3 1 v bn bs) (g : Agrees All W W') (hS : L 14 = false) :
    CopyW W0 B pv cv bv off pn cn bn ps cs bs (setL L 8) (updV vals 8 v) W' := by
  have h' := h.agrees g
  refine ⟨h'.ag, ?_, h.lo, ?_, ?_, ?_⟩
  · have := h'.box
    unfold CopyBox at this ⊢
    simpa [setL, updV, hS] using this
  · intro e; simpa [updV] using h'.own0 (by simpa [setL] using e)
  · intro e; simpa [updV] using h'.own1 (by simpa [setL] using e)
  · intro _
    simp only [updV, if_true]
    exact ownsRow_base hown h.ag.size
theorem CopyW.store2 (h : CopyW W0 B pv cv bv off pn cn bn ps cs bs L vals W) (_ : L 14 = false) : CopyW W0 B pv cv bv off pn cn bn ps cs bs (setL L 14) (updV vals 14 undef) (W.setCell ⟨B, 0 + 2, none⟩ (vals 8)) := by
  have hA : Agrees (fun b => b ≠ B) W (W.setCell ⟨B, 0 + 2, none⟩ (vals 8)) := (Agrees.refl _ W).setCell (.inl (fun h => h rfl)) _
  have hlo := h.lo
  refine ⟨h.ag.trans hA, ?_, h.lo, ?_, ?_, ?_⟩
  · rw [heap_setCell_same _ _ _ _ _ _ h.box]
    unfold CopyBox
    simp [setL, updV]
  · intro e
    have e' : L 2 = true := by simpa [setL] using e
    simpa [updV] using ownsRow_agrees (h.own0 e') hA (fun b hb => by omega)
  · intro e
    have e' : L 5 = true := by simpa [setL] using e
    simpa [updV] using ownsRow_agrees (h.own1 e') hA (fun b hb => by omega)
  · intro e
    have e' : L 8 = true := by simpa [setL] using e
    simpa [updV] using ownsRow_agrees (h.own2 e') hA (fun b hb => by omega)
end
def vCopy (B pn pc cn cc bn bc : Nat) (pa ca ba : Option Addr) : Nat → Value → Prop
  | 0, val => val = .pointer (some ⟨B, 0 + 0, none⟩)
  | 1, val => val = .slice pa pn pc
  | 2, _ => True
  | 3, val => val = .pointer (some ⟨B, 0 + 1, none⟩)
  | 4, val => val = .slice ca cn cc
  | 5, _ => True
  | 6, val => val = .pointer (some ⟨B, 0 + 2, none⟩)
  | 7, val => val = .slice ba bn bc
  | 8, _ => True
  | 9, val => val = .pointer (some ⟨B, 0 + 0, none⟩)
  | 10, val => val = undef
  | 11, val => val = .pointer (some ⟨B, 0 + 1, none⟩)
  | 12, val => val = undef
  | 13, val => val = .pointer (some ⟨B, 0 + 2, none⟩)
  | 14, val => val = undef
  | _, _ => True

theorem flat_one {α : Type} (f : α → List Value) (l : List α) (h : ∀ x ∈ l, ∀ u ∈ f x, u.oneCell' = true) : ∀ u ∈ (l.map f).flatten, u.oneCell' = true := by
  intro u hu
  obtain ⟨ys, hy, hu⟩ := List.mem_flatten.1 hu
  obtain ⟨x, hx, rfl⟩ := List.mem_map.1 hy
  exact h x hx u hu
theorem pageL_one (p : List (BitVec 8)) : ∀ u ∈ pageL p, u.oneCell' = true := by
  intro u hu; obtain ⟨x, _, rfl⟩ := List.mem_map.1 hu; rfl
theorem wrL_one (x : Int × List (BitVec 8)) : ∀ u ∈ wrL x, u.oneCell' = true := by
  intro u hu
  rcases List.mem_cons.1 hu with rfl | hu
  · rfl
  · obtain ⟨x, _, rfl⟩ := List.mem_map.1 hu; rfl
theorem intL_one (z : Int) : ∀ u ∈ intL z, u.oneCell' = true := by
  intro u hu; simp [intL] at hu; subst hu; rfl
structure DV.small (v : DV) : Prop where
  p : v.pn ≤ 9000
  c : v.cn ≤ 9000
  b : v.bn ≤ 9000
theorem DV.one (v : DV) : ∀ u ∈ v.cells, u.oneCell' = true := by
  intro u hu
  simp [DV.cells] at hu
  rcases hu with rfl | rfl | rfl | rfl <;> rfl
def DV.zero : DV := ⟨none, 0, 0, none, 0, 0, none, 0, 0, false⟩
theorem zero_disk (w : World) : (zeroValue 37).run Try.prog w = .ok (.agg DV.zero.cells) w := by kernel_rfl

/-- a disk whose lists lie in blocks of their own, from 'base' on -/
structure DiskOwn (base : Nat) (w : World) (v : DV) (d : Disk) : Prop where
  pages : w.ownsRow base 32 256 (.slice v.pa v.pn v.pc) v.pn (d.pages.map pageL).flatten
  pn : d.pages.length = v.pn
  cache : w.ownsRow base 75 257 (.slice v.ca v.cn v.cc) v.cn (d.cache.map wrL).flatten
  cn : d.cache.length = v.cn
  bad : w.ownsRow base 3 1 (.slice v.ba v.bn v.bc) v.bn (d.bad.map intL).flatten
  bn : d.bad.length = v.bn
  off : d.off = v.off
  ok : d.ok
theorem DiskOwn.at {base : Nat} {w : World} {v : DV} {d : Disk} (h : DiskOwn base w v d) : DiskAt (fun b => base ≤ b) w v d :=
  ⟨own_cells h.pages, h.pn, own_cells h.cache, h.cn, own_cells h.bad, h.bn, h.off, h.ok⟩
theorem DiskOwn.agrees {base : Nat} {R : Nat → Prop} {w w' : World} {v : DV} {d : Disk} (h : DiskOwn base w v d) (g : Agrees R w w') (hR : ∀ b, base ≤ b → R b) : DiskOwn base w' v d :=
  ⟨ownsRow_agrees h.pages g hR, h.pn, ownsRow_agrees h.cache g hR, h.cn, ownsRow_agrees h.bad g hR, h.bn, h.off, h.ok⟩
theorem DiskOwn.base {base base' : Nat} {w : World} {v : DV} {d : Disk} (h : DiskOwn base w v d) (hb : base' ≤ base) : DiskOwn base' w v d :=
  ⟨ownsRow_base h.pages hb, h.pn, ownsRow_base h.cache hb, h.cn, ownsRow_base h.bad hb, h.bn, h.off, h.ok⟩
theorem ownsRow_grown {W W' : World} {base : Nat} {e : TypeId} {size n : Nat} {v : Value} {xs : List Value} {row : Option Nat} (h : W.ownsRow base e size v n xs) (g : W.grownBy W' row) (hne : ∀ b, v.ownBlock = some b → some b ≠ row) : W'.ownsRow base e size v n xs := by
  refine ⟨h.1, ?_⟩
  rcases h.2 with hn | ⟨gb, cap, cur, rfl, hb, hg, hr⟩
  · exact .inl hn
  · exact .inr ⟨gb, cap, cur, rfl, hb, (g.block _ (Array.getElem?_eq_some_iff.1 hg).1 (hne gb rfl)).trans hg, hr⟩
theorem own_apart {W : World} {b1 b2 : Nat} {e1 e2 : TypeId} {s1 s2 n1 n2 : Nat} {v1 v2 : Value} {xs ys : List Value} (h : W.ownsRow b1 e1 s1 v1 n1 xs) (k : W.ownsRow b2 e2 s2 v2 n2 ys) (hne : e1 ≠ e2) : ∀ b, v1.ownBlock = some b → some b ≠ v2.ownBlock := by
  intro b hb he
  rcases h.2 with ⟨rfl, _⟩ | ⟨g1, c1, cur1, rfl, _, hg1, _⟩
  · cases hb
  · rcases k.2 with ⟨rfl, _⟩ | ⟨g2, c2, cur2, rfl, _, hg2, _⟩
    · cases he
    · simp [Value.ownBlock] at hb he
      subst hb
      subst he
      rw [hg1] at hg2
      simp at hg2
      exact hne hg2.2
theorem DiskOwn.push {base : Nat} {w w8 : World} {v : DV} {d : Disk} (h : DiskOwn base w v d) {at' : Int} {p : List (BitVec 8)} (ha : in64 at') (hp : p.length = 256) {a8 : Option Addr} {c8 : Nat}
    (hown : w8.ownsRow base 75 257 (.slice a8 (v.cn + 1) c8) (v.cn + 1) ((d.cache.map wrL).flatten ++ wrL (at', p))) (hg : w.grownBy w8 (Value.slice v.ca v.cn v.cc).ownBlock) :
    DiskOwn base w8 { v with ca := a8, cn := v.cn + 1, cc := c8 } (d.put at' p) := by
  have e : ((d.put at' p).cache.map wrL).flatten = (d.cache.map wrL).flatten ++ wrL (at', p) := by simp [Disk.put]
  refine ⟨ownsRow_grown h.pages hg (own_apart h.pages h.cache (by decide)), h.pn, by rw [e]; exact hown, by simp [Disk.put, h.cn], ownsRow_grown h.bad hg (own_apart h.bad h.cache (by decide)), h.bn, h.off, ?_⟩
  exact ⟨h.ok.page, fun x hx => by
    simp only [Disk.put, List.mem_append, List.mem_singleton] at hx
    rcases hx with hx | rfl
    · exact h.ok.wr x hx
    · exact ⟨ha, hp⟩, h.ok.bad⟩

set_option maxHeartbeats 2000000 in
set_option maxRecDepth 100000 in
theorem vcopy_calls (v : DV) (d : Disk) (w : World) (hv : DiskAt All w v d) (hs : v.small) :
    Calls Try.prog 72 #[.agg v.cells] w fun e w' => ∃ v' : DV, e = .returned (.agg v'.cells) ∧ RowKit.Hid (DiskOwn w.heap.size w' v' d ∧ v'.small ∧ Agrees All w w') := by
  obtain ⟨pa, pn, pc, ca, cn, cc, ba, bn, bc, off⟩ := v
  obtain ⟨hsp, hsc, hsb⟩ := hs
  simp only at hsp hsc hsb
  obtain ⟨W1, hW1⟩ : ∃ W1, w.alloc (.cells (DV.mk pa pn pc ca cn cc ba bn bc off).cells 37) = W1 := ⟨_, rfl⟩
  obtain ⟨W2, hW2⟩ : ∃ W2, W1.alloc (.cells DV.zero.cells 37) = W2 := ⟨_, rfl⟩
  have hs1 : W1.heap.size = w.heap.size + 1 := by rw [← hW1]; simp
  have hs2 : W2.heap.size = w.heap.size + 1 + 1 := by rw [← hW2]; simp [hs1]
  have hA2 : Agrees All w W2 := by rw [← hW2, ← hW1]; exact ((Agrees.refl _ w).alloc _).alloc _
  have hr0 : W2.heap[w.heap.size]? = some (.cells (DV.mk pa pn pc ca cn cc ba bn bc off).cells 37 (0, 0)) := by
    rw [← hW2, heap_alloc_old _ _ (by omega), ← hW1]; exact World.alloc_heap_new w _
  have hr1 : W2.heap[w.heap.size + 1]? = some (.cells DV.zero.cells 37 (0, 0)) := by
    rw [← hW2, ← hs1]; exact World.alloc_heap_new W1 _
  have hv2 := (hv.bound.agrees hA2 fun _ _ => trivial)
  have HV := Lib.hid hv2
  have HOK := Lib.hid hv
  have HR0 := Lib.hid hr0
  have HR1 := Lib.hid hr1
  have HA2 := Lib.hid hA2
  clear hv hv2 hr0 hr1 hA2
  go_enter Try.func72, Try.ntmps72
  go_wp2_with (refine wpList_val rfl (ex_alloc rfl (.agg DV.zero.cells) zero_disk) ?_; rw [show (Value.agg DV.zero.cells).cells = DV.zero.cells from rfl, hW2, hs1])
  obtain ⟨W0, hW0⟩ : ∃ W0, W2.drew = W0 := ⟨_, rfl⟩
  have hs0 : W0.heap.size = w.heap.size + 1 + 1 := by rw [← hW0]; exact hs2
  have hr0 : W0.heap[w.heap.size]? = some (.cells (DV.mk pa pn pc ca cn cc ba bn bc off).cells 37 (0, 0)) := by rw [← hW0]; exact HR0.out
  have HA0 := Lib.hid (show Agrees All w W0 by rw [← hW0]; exact HA2.out.drew)
  have HR1 := Lib.hid (show W0.heap[w.heap.size + 1]? = some (.cells DV.zero.cells 37 (0, 0)) by rw [← hW0]; exact HR1.out)
  have h0 : CellsAt (fun b => b < w.heap.size) W0 (.slice pa pn pc) 256 pn (d.pages.map pageL).flatten := by rw [← hW0]; exact HV.out.pages.agrees (Agrees.refl All W2).drew fun _ _ => trivial
  have h1 : CellsAt (fun b => b < w.heap.size) W0 (.slice ca cn cc) 257 cn (d.cache.map wrL).flatten := by rw [← hW0]; exact HV.out.cache.agrees (Agrees.refl All W2).drew fun _ _ => trivial
  have h2 : CellsAt (fun b => b < w.heap.size) W0 (.slice ba bn bc) 1 bn (d.bad.map intL).flatten := by rw [← hW0]; exact HV.out.bad.agrees (Agrees.refl All W2).drew fun _ _ => trivial
  have hpo := flat_one pageL d.pages (fun x _ => pageL_one x)
  have hco := flat_one wrL d.cache (fun x _ => wrL_one x)
  have hbo := flat_one intL d.bad (fun x _ => intL_one x)
  refine wp_region_plan (by kernel_rfl) ?hok (by kernel_rfl) (vCopy w.heap.size pn pc cn cc bn bc pa ca ba) (CopyW W0 w.heap.size (.slice pa pn pc) (.slice ca cn cc) (.slice ba bn bc) off pn cn bn (d.pages.map pageL).flatten (d.cache.map wrL).flatten (d.bad.map intL).flatten) ?h0 (fun i hi => ?steps) ?hend
  case hok => kernel_rfl
  case h0 => exact fun vals => ⟨by rw [hW0]; exact Agrees.refl _ _, by rw [hW0]; exact hr0, by omega, (fun h => by cases h), (fun h => by cases h), (fun h => by cases h)⟩
  case steps =>
    generalize (d.pages.map pageL).flatten = ps at *
    generalize (d.cache.map wrL).flatten = cs at *
    generalize (d.bad.map intL).flatten = bs at *
    generalize w.heap.size = B at *
    have hi' : i < 15 := hi
    match i, hi' with
    | 0, _ =>
      refine steps_of rfl ?_
      intro L aq wq hL hd st wi
      have o1 := st.outside (t := 1) rfl (v := .pointer (some ⟨B, 0, none⟩)) rfl
      exact opTo_val (v := .pointer (some ⟨B, 0 + 0, none⟩)) rfl (by simp [go_sem, Act.eval, o1]) ⟨(fun h => by cases h), rfl, wi.other rfl _⟩
    | 1, _ =>
      refine steps_of rfl ?_
      intro L aq wq hL hd st wi
      obtain ⟨u0, e0, V0⟩ := st.val 0 _ _ rfl rfl (hd ⟨0, .data⟩ (by simp) rfl)
      obtain rfl : .pointer (some ⟨B, 0 + 0, none⟩) = u0 := V0.symm
      have h10 : L 10 = false := by
        cases h : L 10
        · rfl
        · have := st.closed 10 _ rfl h ⟨1, .phase⟩ (by simp) rfl
          rw [hL] at this; cases this
      exact opTo_val (v := .slice pa pn pc) rfl (ex_load1 rfl onePages (eval_tmp e0) (by rw [cell_of_row _ _ _ _ _ _ wi.box]; simp [CopyBox, h10])) ⟨(fun h => by cases h), rfl, wi.other rfl _⟩
    | 2, _ =>
      refine steps_of rfl ?_
      intro L aq wq hL hd st wi
      obtain ⟨u1, e1, V1⟩ := st.val 1 _ _ rfl rfl (hd ⟨1, .data⟩ (by simp) rfl)
      obtain rfl : .slice pa pn pc = u1 := V1.symm
      have h10 : L 10 = false := by
        cases h : L 10
        · rfl
        · have := st.closed 10 _ rfl h ⟨2, .phase⟩ (by simp) rfl
          rw [hL] at this; cases this
      refine opTo_call (w' := wq) (f := 78) (args := #[.slice pa pn pc]) rfl (by simp [go_sem, Act.eval, e1]) ((copiedp_calls _ _ _ _ wq (by omega) (CellsAt.mono (CellsAt.agrees h0 wi.ag fun b (hb : b < B) => Nat.ne_of_lt hb) fun _ _ => trivial) hpo).mono ?_)
      rintro e w' ⟨v2, rfl, hown, hag⟩
      exact ⟨v2, rfl, (fun h => by cases h), trivial, wi.call0 hL hown hag h10⟩
    | 3, _ =>
      refine steps_of rfl ?_
      intro L aq wq hL hd st wi
      have o1 := st.outside (t := 1) rfl (v := .pointer (some ⟨B, 0, none⟩)) rfl
      exact opTo_val (v := .pointer (some ⟨B, 0 + 1, none⟩)) rfl (by simp [go_sem, Act.eval, o1]) ⟨(fun h => by cases h), rfl, wi.other rfl _⟩
    | 4, _ =>
      refine steps_of rfl ?_
      intro L aq wq hL hd st wi
      obtain ⟨u3, e3, V3⟩ := st.val 3 _ _ rfl rfl (hd ⟨3, .data⟩ (by simp) rfl)
      obtain rfl : .pointer (some ⟨B, 0 + 1, none⟩) = u3 := V3.symm
      have h12 : L 12 = false := by
        cases h : L 12
        · rfl
        · have := st.closed 12 _ rfl h ⟨4, .phase⟩ (by simp) rfl
          rw [hL] at this; cases this
      exact opTo_val (v := .slice ca cn cc) rfl (ex_load1 rfl oneWrites (eval_tmp e3) (by rw [cell_of_row _ _ _ _ _ _ wi.box]; simp [CopyBox, h12])) ⟨(fun h => by cases h), rfl, wi.other rfl _⟩
    | 5, _ =>
      refine steps_of rfl ?_
      intro L aq wq hL hd st wi
      obtain ⟨u4, e4, V4⟩ := st.val 4 _ _ rfl rfl (hd ⟨4, .data⟩ (by simp) rfl)
      obtain rfl : .slice ca cn cc = u4 := V4.symm
      have h12 : L 12 = false := by
        cases h : L 12
        · rfl
        · have := st.closed 12 _ rfl h ⟨5, .phase⟩ (by simp) rfl
          rw [hL] at this; cases this
      refine opTo_call (w' := wq) (f := 79) (args := #[.slice ca cn cc]) rfl (by simp [go_sem, Act.eval, e4]) ((copiedw_calls _ _ _ _ wq (by omega) (CellsAt.mono (CellsAt.agrees h1 wi.ag fun b (hb : b < B) => Nat.ne_of_lt hb) fun _ _ => trivial) hco).mono ?_)
      rintro e w' ⟨v2, rfl, hown, hag⟩
      exact ⟨v2, rfl, (fun h => by cases h), trivial, wi.call1 hL hown hag h12⟩
    | 6, _ =>
      refine steps_of rfl ?_
      intro L aq wq hL hd st wi
      have o1 := st.outside (t := 1) rfl (v := .pointer (some ⟨B, 0, none⟩)) rfl
      exact opTo_val (v := .pointer (some ⟨B, 0 + 2, none⟩)) rfl (by simp [go_sem, Act.eval, o1]) ⟨(fun h => by cases h), rfl, wi.other rfl _⟩
    | 7, _ =>
      refine steps_of rfl ?_
      intro L aq wq hL hd st wi
      obtain ⟨u6, e6, V6⟩ := st.val 6 _ _ rfl rfl (hd ⟨6, .data⟩ (by simp) rfl)
      obtain rfl : .pointer (some ⟨B, 0 + 2, none⟩) = u6 := V6.symm
      have h14 : L 14 = false := by
        cases h : L 14
        · rfl
        · have := st.closed 14 _ rfl h ⟨7, .phase⟩ (by simp) rfl
          rw [hL] at this; cases this
      exact opTo_val (v := .slice ba bn bc) rfl (ex_load1 rfl oneIntsL (eval_tmp e6) (by rw [cell_of_row _ _ _ _ _ _ wi.box]; simp [CopyBox, h14])) ⟨(fun h => by cases h), rfl, wi.other rfl _⟩
    | 8, _ =>
      refine steps_of rfl ?_
      intro L aq wq hL hd st wi
      obtain ⟨u7, e7, V7⟩ := st.val 7 _ _ rfl rfl (hd ⟨7, .data⟩ (by simp) rfl)
      obtain rfl : .slice ba bn bc = u7 := V7.symm
      have h14 : L 14 = false := by
        cases h : L 14
        · rfl
        · have := st.closed 14 _ rfl h ⟨8, .phase⟩ (by simp) rfl
          rw [hL] at this; cases this
      refine opTo_call (w' := wq) (f := 80) (args := #[.slice ba bn bc]) rfl (by simp [go_sem, Act.eval, e7]) ((copiedi_calls _ _ _ _ wq (by omega) (CellsAt.mono (CellsAt.agrees h2 wi.ag fun b (hb : b < B) => Nat.ne_of_lt hb) fun _ _ => trivial) hbo).mono ?_)
      rintro e w' ⟨v2, rfl, hown, hag⟩
      exact ⟨v2, rfl, (fun h => by cases h), trivial, wi.call2 hL hown hag h14⟩
    | 9, _ =>
      refine steps_of rfl ?_
      intro L aq wq hL hd st wi
      have o1 := st.outside (t := 1) rfl (v := .pointer (some ⟨B, 0, none⟩)) rfl
      exact opTo_val (v := .pointer (some ⟨B, 0 + 0, none⟩)) rfl (by simp [go_sem, Act.eval, o1]) ⟨(fun h => by cases h), rfl, wi.other rfl _⟩
    | 10, _ =>
      refine steps_of rfl ?_
      intro L aq wq hL hd st wi
      obtain ⟨u9, e9, V9⟩ := st.val 9 _ _ rfl rfl (hd ⟨9, .data⟩ (by simp) rfl)
      obtain rfl : .pointer (some ⟨B, 0 + 0, none⟩) = u9 := V9.symm
      obtain ⟨u2, e2, V2⟩ := st.val 2 _ _ rfl rfl (hd ⟨2, .data⟩ (by simp) rfl)
      have hLc := hd ⟨2, .data⟩ (by simp) rfl
      have hw := wi.own0 hLc
      rw [slotV_val rfl rfl e2] at hw
      refine opTo_skip rfl (ex_store1 rfl onePages (eval_tmp e9) (eval_tmp e2) (v0 := .slice pa pn pc) (by rw [cell_of_row _ _ _ _ _ _ wi.box]; simp [CopyBox, hL]) (frozen_of_row _ _ _ _ _ wi.box) (own_one hw)) ⟨fun _ => rfl, rfl, ?_⟩
      have := wi.store0 hL
      rwa [slotV_val rfl rfl e2] at this
    | 11, _ =>
      refine steps_of rfl ?_
      intro L aq wq hL hd st wi
      have o1 := st.outside (t := 1) rfl (v := .pointer (some ⟨B, 0, none⟩)) rfl
      exact opTo_val (v := .pointer (some ⟨B, 0 + 1, none⟩)) rfl (by simp [go_sem, Act.eval, o1]) ⟨(fun h => by cases h), rfl, wi.other rfl _⟩
    | 12, _ =>
      refine steps_of rfl ?_
      intro L aq wq hL hd st wi
      obtain ⟨u11, e11, V11⟩ := st.val 11 _ _ rfl rfl (hd ⟨11, .data⟩ (by simp) rfl)
      obtain rfl : .pointer (some ⟨B, 0 + 1, none⟩) = u11 := V11.symm
      obtain ⟨u5, e5, V5⟩ := st.val 5 _ _ rfl rfl (hd ⟨5, .data⟩ (by simp) rfl)
      have hLc := hd ⟨5, .data⟩ (by simp) rfl
      have hw := wi.own1 hLc
      rw [slotV_val rfl rfl e5] at hw
      refine opTo_skip rfl (ex_store1 rfl oneWrites (eval_tmp e11) (eval_tmp e5) (v0 := .slice ca cn cc) (by rw [cell_of_row _ _ _ _ _ _ wi.box]; simp [CopyBox, hL]) (frozen_of_row _ _ _ _ _ wi.box) (own_one hw)) ⟨fun _ => rfl, rfl, ?_⟩
      have := wi.store1 hL
      rwa [slotV_val rfl rfl e5] at this
    | 13, _ =>
      refine steps_of rfl ?_
      intro L aq wq hL hd st wi
      have o1 := st.outside (t := 1) rfl (v := .pointer (some ⟨B, 0, none⟩)) rfl
      exact opTo_val (v := .pointer (some ⟨B, 0 + 2, none⟩)) rfl (by simp [go_sem, Act.eval, o1]) ⟨(fun h => by cases h), rfl, wi.other rfl _⟩
    | 14, _ =>
      refine steps_of rfl ?_
      intro L aq wq hL hd st wi
      obtain ⟨u13, e13, V13⟩ := st.val 13 _ _ rfl rfl (hd ⟨13, .data⟩ (by simp) rfl)
      obtain rfl : .pointer (some ⟨B, 0 + 2, none⟩) = u13 := V13.symm
      obtain ⟨u8, e8, V8⟩ := st.val 8 _ _ rfl rfl (hd ⟨8, .data⟩ (by simp) rfl)
      have hLc := hd ⟨8, .data⟩ (by simp) rfl
      have hw := wi.own2 hLc
      rw [slotV_val rfl rfl e8] at hw
      refine opTo_skip rfl (ex_store1 rfl oneIntsL (eval_tmp e13) (eval_tmp e8) (v0 := .slice ba bn bc) (by rw [cell_of_row _ _ _ _ _ _ wi.box]; simp [CopyBox, hL]) (frozen_of_row _ _ _ _ _ wi.box) (own_one hw)) ⟨fun _ => rfl, rfl, ?_⟩
      have := wi.store2 hL
      rwa [slotV_val rfl rfl e8] at this
    | (i + 15), h => omega
  case hend =>
    intro vals w' hV hW
    have hbox := hW.box
    have hown0 := hW.own0 rfl
    have hown1 := hW.own1 rfl
    have hown2 := hW.own2 rfl
    have hag := hW.ag
    obtain ⟨v0, e0⟩ : ∃ v0, vals 2 = v0 := ⟨_, rfl⟩
    obtain ⟨v1, e1⟩ : ∃ v1, vals 5 = v1 := ⟨_, rfl⟩
    obtain ⟨v2, e2⟩ : ∃ v2, vals 8 = v2 := ⟨_, rfl⟩
    have hbx : CopyBox (.slice pa pn pc) (.slice ca cn cc) (.slice ba bn bc) off (fun i => decide (i < 15)) vals = #[v0, v1, v2, .bool off] := by
      rw [← e0, ← e1, ← e2]; rfl
    have hbox' : w'.heap[w.heap.size]? = some (.cells #[v0, v1, v2, .bool off] 37 (0, 0)) := by rw [← hbx]; exact hbox
    rw [e0] at hown0
    rw [e1] at hown1
    rw [e2] at hown2
    obtain ⟨a0, c0, rfl, hcl0⟩ := id (own_cells hown0)
    obtain ⟨a1, c1, rfl, hcl1⟩ := id (own_cells hown1)
    obtain ⟨a2, c2, rfl, hcl2⟩ := id (own_cells hown2)
    have hA : Agrees All w w' := (HA0.out.weak (R := fun b => b < w.heap.size)).trans' hag (fun b _ hb => Nat.ne_of_lt hb) |>.mono fun b hb _ => hb
    have HF : RowKit.Hid (DiskOwn (w.heap.size + 1 + 1) w' ⟨a0, pn, c0, a1, cn, c1, a2, bn, c2, off⟩ d ∧ (DV.mk a0 pn c0 a1 cn c1 a2 bn c2 off).small ∧ Agrees All w w') := by
      refine Lib.hid ⟨⟨ownsRow_base hown0 (by omega), HOK.out.pn, ownsRow_base hown1 (by omega), HOK.out.cn, ownsRow_base hown2 (by omega), HOK.out.bn, HOK.out.off, HOK.out.ok⟩, ⟨hsp, hsc, hsb⟩, hA⟩
    have HB := Lib.hid hbox'
    have HZ := Lib.hid ((hag.block _ (Array.getElem?_eq_some_iff.1 HR1.out).1 (by omega)).trans HR1.out)
    simp only [putAll, Act.put, List.setIfInBounds_toArray, List.set_cons_succ, List.set_cons_zero]
    clear hV hW e0 e1 e2 hbx hbox hbox' hown0 hown1 hown2 hag hcl0 hcl1 hcl2 hA h0 h1 h2 hr0
    go_wp2_with (first | (refine wpList_val rfl (ex_load (ty := 37) rfl isAgg_disk w.heap.size 0 rfl (DV.mk a0 pn c0 a1 cn c1 a2 bn c2 off).cells rfl (DV.load _ HB.out)) ?_) | (refine wpList_unit rfl (ex_storeAll (ty := 37) rfl isAgg_disk.2 (w.heap.size + 1) rfl (DV.mk a0 pn c0 a1 cn c1 a2 bn c2 off).cells DV.zero.cells rfl rfl HZ.out rfl (DV.one _)) ?_))
    have hrow := setRow_heap _ _ _ (DV.mk a0 pn c0 a1 cn c1 a2 bn c2 off).cells _ _ HZ.out
    have hAF : Agrees (fun b => b ≠ w.heap.size + 1) w' (w'.setRow (w.heap.size + 1) (DV.mk a0 pn c0 a1 cn c1 a2 bn c2 off).cells) := (Agrees.refl _ w').setRow (.inl (fun h => h rfl)) _
    obtain ⟨hd, hsm, hga⟩ := HF.out
    refine bodyPost_ret (results_cell_row rfl _ _ (w.heap.size + 1) _ _ _ _ rfl hrow Try.underlying37 rfl (by kernel_rfl)) rfl ⟨⟨a0, pn, c0, a1, cn, c1, a2, bn, c2, off⟩, rfl, Lib.hid ⟨?_, hsm, hga.setRow (.inr (by omega)) _⟩⟩
    exact (hd.agrees hAF (fun b hb e => by omega)).base (by omega)
end Suture
/-
  STRUCTS AND SLICES BUILT OUT OF WHOLE PARTS (no program, but for the two words on writes).
  Conditions: none beyond each theorem's own.
-/
namespace Suture
open Go Go.RowKit Go.Proofs

theorem fold_set (off : Nat) : ∀ (vs : List Value) (k : Nat) (cs : Array Value), off + k + vs.length ≤ cs.size →
    ((vs.zipIdx k).foldl (fun (cs : Array Value) (p : Value × Nat) => cs.setIfInBounds (off + p.2) p.1) cs).toList = cs.toList.take (off + k) ++ vs ++ cs.toList.drop (off + k + vs.length)
  | [], k, cs, _ => by simp
  | v :: vs, k, cs, h => by
    rw [List.zipIdx_cons, List.foldl_cons, fold_set off vs (k + 1) _ (by simp at h ⊢; omega)]
    simp only [List.length_cons] at h
    rw [Array.toList_setIfInBounds]
    have h1 : (cs.toList.set (off + k) v).take (off + (k + 1)) = cs.toList.take (off + k) ++ [v] := by
      rw [show off + (k + 1) = off + k + 1 by omega, List.take_succ_eq_append_getElem (by simp; omega), List.take_set_of_le (Nat.le_refl _)]
      simp
    have h2 : (cs.toList.set (off + k) v).drop (off + (k + 1) + vs.length) = cs.toList.drop (off + k + (vs.length + 1)) := by
      rw [List.drop_set_of_lt (by omega)]
      congr 1; omega
    rw [h1, h2]
    simp
theorem fill_step (place : Nat → Option (Nat × Nat)) (cs : Array Value) (i : Nat) (v : Value) (rest : List (Nat × Value)) (off size : Nat) (hp : place i = some (off, size)) (hs : v.cells.size = size) (hf : off + size ≤ cs.size) :
    Instr.fill place cs ((i, v) :: rest) = Instr.fill place (cs.toList.take off ++ v.cells.toList ++ cs.toList.drop (off + size)).toArray rest := by
  rw [Instr.fill, hp]
  simp only
  rw [if_neg (by simp [hs]; omega)]
  congr 1
  have h := fold_set off v.cells.toList 0 cs (by simp [hs]; omega)
  have e : (v.cells.zipIdx.foldl (fun (cs : Array Value) (p : Value × Nat) => cs.setIfInBounds (off + p.2) p.1) cs) = ((v.cells.toList.zipIdx 0).foldl (fun (cs : Array Value) (p : Value × Nat) => cs.setIfInBounds (off + p.2) p.1) cs) := by
    rw [← Array.foldl_toList, Array.toList_zipIdx]
  have h3 : (v.cells.zipIdx.foldl (fun (cs : Array Value) (p : Value × Nat) => cs.setIfInBounds (off + p.2) p.1) cs).toList = cs.toList.take off ++ v.cells.toList ++ cs.toList.drop (off + size) := by
    rw [e, h]; simp [hs]
  have h4 := congrArg List.toArray h3
  simpa using h4

/-- a slice of one element -/
theorem ex_buildSlice1 {P : Program} {o : Oper} {a : Act} {w : World} {T E : TypeId} {x : Operand} {z : Value} {size bytes : Nat} {vs : Array Value} (ho : o.op = .buildSlice T 1 #[(0, x)]) (hx : a.eval x = .agg vs) (hu : P.underlying T = some (.slice E))
    (hi : (P.info? E).map (fun i => (i.zero, i.size, i.bytes)) = some (some z, size, bytes)) (hpos : 0 < size) (hsm : size ≤ 16777216) (hs : vs.size = size) :
    (execOp a.eval o).run P w = .ok (.value (.slice (some ⟨w.heap.size, 0, none⟩) 1 1)) (w.alloc (.cells vs E)) := by
  obtain ⟨i0, hi0, hz0, hz1, _⟩ := info_parts hi
  have hfill : Instr.fill (fun i => some (i * i0.size, i0.size)) ((Array.range (1 * i0.size)).map (z.cells[· % z.cells.size]!)) #[(0, Value.agg vs)].toList = some vs := by
    rw [show #[(0, Value.agg vs)].toList = [(0, Value.agg vs)] from rfl, fill_step _ _ _ _ _ (0 * i0.size) i0.size rfl (by show vs.size = _; rw [hs, hz1]) (by simp)]
    rw [Instr.fill]
    have e : (Value.agg vs).cells = vs := rfl
    rw [e]
    congr 1
    have h0 : ((Array.range (1 * i0.size)).map (z.cells[· % z.cells.size]!)).toList.length = i0.size := by simp
    rw [Nat.zero_mul, List.take_zero, List.nil_append, Nat.zero_add, List.drop_of_length_le (by omega), List.append_nil, Array.toArray_toList]
  have hrun := run_buildSlice (P := P) w T E 1 #[(0, Value.agg vs)] vs i0 z hu hi0 hz0 (by rw [hz1]; omega) (by rw [hz1]; omega) hfill
  unfold execOp
  simp only [ho, List.map_toArray, List.map_cons, List.map_nil, hx, Sem.run_bind, hrun, Result.andThen_ok]
  rfl

/-- a write, built -/
theorem run_build_write (at' : Int) (p : List (BitVec 8)) (hp : p.length = 256) (w : World) : (Instr.build 75 #[(0, .int .i64 at'), (1, .agg (pageCells p))]).run Try.prog w = .ok (.agg (wrCells (at', p))) w := by
  have hz : zeroWr.size = 257 := zeroWr_size
  have hfill : Instr.fill ((#[((0 : Nat), (1 : Nat)), (1, 256)] : Array (Nat × Nat))[·]?) zeroWr [(0, Value.int .i64 at'), (1, .agg (pageCells p))] = some (wrCells (at', p)) := by
    rw [fill_step _ _ _ _ _ 0 1 rfl rfl (by omega), fill_step _ _ _ _ _ 1 256 rfl (by show (pageCells p).size = 256; rw [pageCells_size, hp]) (by have h1 : (Value.int .i64 at').cells.size = 1 := rfl; simp [hz, h1]), Instr.fill]
    have e1 : (Value.int .i64 at').cells.toList = [.int .i64 at'] := rfl
    have e2 : (Value.agg (pageCells p)).cells.toList = p.map B := by
      show (pageCells p).toList = _
      rw [pageCells_def]
    rw [e1, e2]
    congr 1
    unfold wrCells wrL
    congr 1
    rw [List.take_zero, List.nil_append, List.take_append_of_le_length (by simp), List.drop_of_length_le (by simp; omega)]
    simp
  have hu := Try.underlying75
  unfold Instr.build
  rw [Sem.run_bind, zero_write]
  simp only [Result.andThen_ok, Sem.run_bind, run_underlying hu]
  have hm : (Array.mapM (fun (f : Field) => do
      let s ← Go.sizeOf f.type
      pure (f.offset, s)) #[{ name := "At", type := 3, offset := 0, embedded := false, tag := "", pkgPath := "", byteOffset := 0 }, { name := "Data", type := 32, offset := 1, embedded := false, tag := "", pkgPath := "", byteOffset := 8 }] : Sem (Array (Nat × Nat))).run Try.prog w = .ok #[(0, 1), (1, 256)] w := by kernel_rfl
  rw [hm]
  simp only [Result.andThen_ok]
  rw [show (Value.agg zeroWr).cells = zeroWr from rfl, hfill]
  rfl
theorem ex_build_write {o : Oper} {a : Act} {w : World} {x y : Operand} {at' : Int} {p : List (BitVec 8)} (ho : o.op = .build 75 #[(0, x), (1, y)]) (hx : a.eval x = .int .i64 at') (hy : a.eval y = .agg (pageCells p)) (hp : p.length = 256) :
    (execOp a.eval o).run Try.prog w = .ok (.value (.agg (wrCells (at', p)))) w := by
  unfold execOp
  simp only [ho, List.map_toArray, List.map_cons, List.map_nil, hx, hy, Sem.run_bind, run_build_write at' p hp, Result.andThen_ok]
  rfl
end Suture
/-
  A PAGE WRITTEN: vdev.Write.
  Conditions: none beyond the disk's own reading; its lists are not longer than 9000.
-/
namespace Suture
open Go Go.RowKit Go.Proofs
attribute [local go_sem] Oper.semAt_some

/-- what a write leaves -/
def Disk.write (d : Disk) (at' : Int) (p : List (BitVec 8)) : Disk := if d.writeE at' = 0 then d.put at' p else d

theorem results_a1t1 {P : Program} {fn : Func} {p q : Tmp} {ty : TypeId} {n : Nat} (h : fn.results = #[.cell p ty, .tmp q]) (tmps : Array Value) {W : World} {b : Nat} {vs : Array Value} (hp : tmps.getD p undef = .pointer (some ⟨b, 0, none⟩))
    (hA : IsAgg P ty n) (hn : vs.size = n) (hc : ∀ j, j < n → W.cell? ⟨b, 0 + j, none⟩ = vs[j]?) : (results fn tmps).run P W = .ok (.tuple #[.agg vs, tmps.getD q undef]) W := by
  have hp' : tmps[p]?.getD undef = .pointer (some ⟨b, 0, none⟩) := by simpa using hp
  simp [results, h, hp', asAddr, run_loadVar_agg hA b 0 vs hn hc]

set_option maxHeartbeats 2000000 in
set_option maxRecDepth 100000 in
theorem vwrite_calls (v : DV) (d : Disk) (at' : Int) (p : List (BitVec 8)) (hp : p.length = 256) (ha : in64 at') (w : World) (hv : DiskAt All w v d) (hs : v.small) :
    Calls Try.prog 65 #[.agg v.cells, .int .i64 at', .agg (pageCells p)] w fun e w' => ∃ v' : DV, e = .returned (.tuple #[.agg v'.cells, .int .i64 (d.writeE at')]) ∧ RowKit.Hid (DiskOwn w.heap.size w' v' (d.write at' p) ∧ Agrees All w w') := by
  obtain ⟨W1, hW1⟩ : ∃ W1, w.alloc (.cells v.cells 37) = W1 := ⟨_, rfl⟩
  obtain ⟨W2, hW2⟩ : ∃ W2, W1.alloc (.cells (pageCells p) 32) = W2 := ⟨_, rfl⟩
  obtain ⟨W3, hW3⟩ : ∃ W3, W2.alloc (.cells DV.zero.cells 37) = W3 := ⟨_, rfl⟩
  have hs1 : W1.heap.size = w.heap.size + 1 := by rw [← hW1]; simp
  have hs2 : W2.heap.size = w.heap.size + 1 + 1 := by rw [← hW2]; simp [hs1]
  have hs3 : W3.heap.size = w.heap.size + 1 + 1 + 1 := by rw [← hW3]; simp [hs2]
  have hA3 : Agrees All w W3 := by rw [← hW3, ← hW2, ← hW1]; exact (((Agrees.refl _ w).alloc _).alloc _).alloc _
  have hr0 : W3.heap[w.heap.size]? = some (.cells v.cells 37 (0, 0)) := by
    rw [← hW3, heap_alloc_old _ _ (by omega), ← hW2, heap_alloc_old _ _ (by omega), ← hW1]; exact World.alloc_heap_new w _
  have hr1 : W3.heap[w.heap.size + 1]? = some (.cells (pageCells p) 32 (0, 0)) := by
    rw [← hW3, heap_alloc_old _ _ (by omega), ← hW2, ← hs1]; exact World.alloc_heap_new W1 _
  have hr2 : W3.heap[w.heap.size + 1 + 1]? = some (.cells DV.zero.cells 37 (0, 0)) := by
    rw [← hW3, ← hs2]; exact World.alloc_heap_new W2 _
  have HM := Lib.hid (vasked_calls v d at' W3 (hv.agrees hA3 fun _ h => h))
  have HCN := Lib.hid hv.cn
  have HV := Lib.hid hv.bound
  have HVA := Lib.hid hv
  have HA3 := Lib.hid hA3
  have HR0 := Lib.hid hr0
  have HR1 := Lib.hid hr1
  have HR2 := Lib.hid hr2
  have HWE : RowKit.Hid (d.writeE at' = if d.asked at' = 0 then (if 2000 ≤ d.cache.length then 32 else 0) else d.asked at') := by exact Lib.hid rfl
  have HPS := Lib.hid (show (pageCells p).size = 256 by rw [pageCells_size, hp])
  clear hv hA3 hr0 hr1 hr2
  go_enter Try.func65, Try.ntmps65
  go_wp2_with (first | (refine wpList_val rfl (ex_alloc rfl (.agg DV.zero.cells) zero_disk) ?_; rw [show (Value.agg DV.zero.cells).cells = DV.zero.cells from rfl, hW3, hs2]) | (refine wpList_val rfl (ex_load (ty := 37) rfl isAgg_disk w.heap.size 0 rfl v.cells rfl (v.load HR0.out)) ?_))
  refine HM.out.mono ?_
  rintro e W4 ⟨rfl, hag⟩
  have HA4 := Lib.hid (HA3.out.trans hag)
  have HQ0 := Lib.hid ((hag.block _ (Array.getElem?_eq_some_iff.1 HR0.out).1 trivial).trans HR0.out)
  have HQ1 := Lib.hid ((hag.block _ (Array.getElem?_eq_some_iff.1 HR1.out).1 trivial).trans HR1.out)
  have HQ2 := Lib.hid ((hag.block _ (Array.getElem?_eq_some_iff.1 HR2.out).1 trivial).trans HR2.out)
  have HC := Lib.hid (vcopy_calls v d W4 (HVA.out.agrees HA4.out fun _ h => h) hs)
  have hsz4 : w.heap.size + 1 + 1 + 1 ≤ W4.heap.size := by have := hag.size; omega
  obtain ⟨pa, pn, pc, ca, cn, cc, ba, bn, bc, off⟩ := v
  have hcn : d.cache.length = cn := HCN.out
  have c1 : W4.cell? ⟨w.heap.size, 1, none⟩ = some (.slice ca cn cc) := by rw [cell_of_row _ _ _ _ _ _ HQ0.out]; rfl
  rw [hcn] at HWE
  have hsc : cn ≤ 9000 := hs.c
  generalize d.asked at' = ask at *
  clear hag HR0 HR1 HR2 HM HA3 hW1 hW2 hW3 hs1 hs2 hs3 HV HCN
  have mid : ∀ (E : Int), E = d.writeE at' → True := fun _ _ => trivial
  clear mid
  by_cases h0 : ask = 0 <;> by_cases h1 : 2000 ≤ cn
  all_goals
    go_wp2_with (refine wpList_val rfl (ex_load (ty := 37) rfl isAgg_disk w.heap.size 0 rfl (DV.mk pa pn pc ca cn cc ba bn bc off).cells rfl (DV.load _ HQ0.out)) ?_)
  all_goals
    refine HC.out.mono ?_
    rintro e W5 ⟨v', rfl, hcopy⟩
    obtain ⟨hdk, hsm, hg5⟩ := hcopy.out
    have hlt0 := (Array.getElem?_eq_some_iff.1 HQ0.out).1
    have hlt1 := (Array.getElem?_eq_some_iff.1 HQ1.out).1
    have hlt2 := (Array.getElem?_eq_some_iff.1 HQ2.out).1
    have HP0 := Lib.hid ((hg5.block _ hlt0 trivial).trans HQ0.out)
    have HP1 := Lib.hid ((hg5.block _ hlt1 trivial).trans HQ1.out)
    have HP2 := Lib.hid ((hg5.block _ hlt2 trivial).trans HQ2.out)
    obtain ⟨W6, hW6⟩ : ∃ W6, W5.setRow w.heap.size v'.cells = W6 := ⟨_, rfl⟩
    have hA6 : Agrees (fun b => b ≠ w.heap.size) W5 W6 := by rw [← hW6]; exact (Agrees.refl _ _).setRow (.inl (fun h => h rfl)) _
    have HS0 := Lib.hid (show W6.heap[w.heap.size]? = some (.cells v'.cells 37 (0, 0)) by rw [← hW6]; exact setRow_heap _ _ _ _ _ _ HP0.out)
    have HS1 := Lib.hid ((hA6.block _ (Array.getElem?_eq_some_iff.1 HP1.out).1 (by omega)).trans HP1.out)
    have HS2 := Lib.hid ((hA6.block _ (Array.getElem?_eq_some_iff.1 HP2.out).1 (by omega)).trans HP2.out)
    have HD6 := Lib.hid (hdk.agrees hA6 (fun b hb e => by omega))
    have HA6 := Lib.hid (show Agrees All w W6 by rw [← hW6]; exact (HA4.out.trans hg5).setRow (.inr (Nat.le_refl _)) _)
    have hsz6 : W4.heap.size ≤ W6.heap.size := by have := hg5.size; have := hA6.size; omega
    clear hcopy hdk hg5 hlt0 hlt1 hlt2 HQ0 HQ1 HQ2 HC hA6 c1
    clear HP1 HP2
  rotate_left 1
  · have HWR : RowKit.Hid (d.write at' p = d.put at' p ∧ d.writeE at' = 0) := by
      have e : d.writeE at' = 0 := by rw [HWE.out, if_pos h0, if_neg h1]
      refine Lib.hid ⟨?_, e⟩
      unfold Disk.write
      rw [if_pos e]
    subst h0
    obtain ⟨i0, hi, hz0, hz1, hz2⟩ := info_parts infoWrite
    obtain ⟨pa', pn', pc', ca', cn', cc', ba', bn', bc', off''⟩ := v'
    have hsc' : cn' ≤ 9000 := hsm.c
    have c1 : W6.cell? ⟨w.heap.size, 1, none⟩ = some (.slice ca' cn' cc') := by rw [cell_of_row _ _ _ _ _ _ HS0.out]; rfl
    obtain ⟨W7, hW7⟩ : ∃ W7, W6.alloc (.cells (wrCells (at', p)) 75) = W7 := ⟨_, rfl⟩
    have hA7 : Agrees All W6 W7 := by rw [← hW7]; exact (Agrees.refl _ _).alloc _
    have hr7 : W7.heap[W6.heap.size]? = some (.cells (wrCells (at', p)) 75 (0, 0)) := by rw [← hW7]; exact World.alloc_heap_new _ _
    have HD7 := Lib.hid (HD6.out.agrees hA7 fun _ _ => trivial)
    have HO7 := Lib.hid HD7.out.cache
    have HSRC : RowKit.Hid (CellsAt All W7 (.slice (some ⟨W6.heap.size, 0, none⟩) 1 1) 257 1 (wrL (at', p))) :=
      ⟨_, 1, rfl, by rw [wrL_length]; simp [hp], by omega, fun j u hu => ⟨W6.heap.size, 0, rfl, trivial, (Array.getElem?_eq_some_iff.1 hr7).1, by rw [Nat.zero_add, cell_of_row _ _ _ _ _ _ hr7, wrCells_get]; exact hu⟩⟩
    have HT0 := Lib.hid ((hA7.block _ (Array.getElem?_eq_some_iff.1 HS0.out).1 trivial).trans HS0.out)
    have HT2 := Lib.hid ((hA7.block _ (Array.getElem?_eq_some_iff.1 HS2.out).1 trivial).trans HS2.out)
    have HA7 := Lib.hid (HA6.out.trans hA7)
    have hsz7 : W4.heap.size ≤ W7.heap.size := by have := hA7.size; omega
    have HWS := Lib.hid (wrCells_size (at', p) hp)
    have HPC := Lib.hid (show ∀ j, j < 256 → W6.cell? ⟨w.heap.size + 1, 0 + j, none⟩ = (pageCells p)[j]? from fun j _ => by rw [Nat.zero_add]; exact cell_of_row _ _ _ _ _ _ HS1.out)
    clear hA7 hr7
    go_wp2_with (first | (refine wpList_unit rfl (ex_storeAll (ty := 37) rfl isAgg_disk.2 w.heap.size rfl (DV.mk pa' pn' pc' ca' cn' cc' ba' bn' bc' off'').cells (DV.mk pa pn pc ca cn cc ba bn bc off).cells rfl rfl HP0.out rfl (DV.one _)) ?_; rw [hW6]) | (refine wpList_val rfl (ex_load (ty := 32) rfl isAgg_page (w.heap.size + 1) 0 rfl (pageCells p) HPS.out HPC.out) ?_) | (refine wpList_val rfl (ex_build_write rfl rfl rfl hp) ?_) | (refine wpList_val rfl (ex_buildSlice1 (T := 34) rfl rfl Try.underlying34 infoWrite (by decide) (by decide) HWS.out) ?_; rw [hW7]) |
      (at_builtin; refine wpList_append_from rfl _ _ 34 rfl W4.heap.size 75 i0 noWrV 257 264 Try.underlying34 hi hz0 hz1 hz2 noWrV_size (by decide) (.slice ca' cn' cc') cn' (d.cache.map wrL).flatten rfl HO7.out (.slice (some ⟨W6.heap.size, 0, none⟩) 1 1) 1 (wrL (at', p)) rfl HSRC.out (wrL_one _) (by simp only [maxLen]; omega) (by omega) hsz7 ?_))
    intro v8 w8 hown8 hgr8
    have hob : ∀ b, (Value.slice ca' cn' cc').ownBlock = some b → W4.heap.size ≤ b := fun b hb => (HO7.out.lt b hb).1
    have hg8 : Agrees (fun b => b < W4.heap.size) W7 w8 := (Agrees.refl _ W7).grown' hgr8 (fun b hb => .inr (by have := hob b hb; omega))
    obtain ⟨a8, c8, rfl, _, hcl8⟩ := id (own_cells hown8)
    have HD8 := Lib.hid (HD7.out.push ha hp hown8 hgr8)
    have HU0 := Lib.hid ((hg8.block _ (Array.getElem?_eq_some_iff.1 HT0.out).1 (by omega)).trans HT0.out)
    have HU2 := Lib.hid ((hg8.block _ (Array.getElem?_eq_some_iff.1 HT2.out).1 (by omega)).trans HT2.out)
    have HA8 := Lib.hid (show Agrees All w w8 from ((HA7.out.weak (R := fun b => b < w.heap.size)).trans' hg8 (fun b hb _ => by omega)).mono fun b hb _ => hb)
    have hsz8 := hg8.size
    obtain ⟨W9, hW9⟩ : ∃ W9, w8.setCell ⟨w.heap.size, 1, none⟩ (.slice a8 (cn' + 1) c8) = W9 := ⟨_, rfl⟩
    have c8' : w8.cell? ⟨w.heap.size, 1, none⟩ = some (.slice ca' cn' cc') := by rw [cell_of_row _ _ _ _ _ _ HU0.out]; rfl
    have f8 : w8.frozen? ⟨w.heap.size, 1, none⟩ = false := frozen_of_row _ _ _ _ _ HU0.out
    have hA9 : Agrees (fun b => b ≠ w.heap.size) w8 W9 := by rw [← hW9]; exact (Agrees.refl _ _).setCell (.inl (fun h => h rfl)) _
    have HX0 := Lib.hid (show W9.heap[w.heap.size]? = some (.cells (DV.mk pa' pn' pc' a8 (cn' + 1) c8 ba' bn' bc' off'').cells 37 (0, 0)) by rw [← hW9, heap_setCell_same _ _ _ _ _ _ HU0.out]; rfl)
    have HX2 := Lib.hid ((hA9.block _ (Array.getElem?_eq_some_iff.1 HU2.out).1 (by omega)).trans HU2.out)
    have HD9 := Lib.hid (HD8.out.agrees hA9 (fun b hb e => by omega))
    have HA9 := Lib.hid (show Agrees All w W9 by rw [← hW9]; exact HA8.out.setCell (.inr (Nat.le_refl _)) _)
    have hsz9 := hA9.size
    have hrow := setRow_heap W9 (w.heap.size + 1 + 1) _ (DV.mk pa' pn' pc' a8 (cn' + 1) c8 ba' bn' bc' off'').cells _ _ HX2.out
    have HROW := Lib.hid hrow
    have HAF := Lib.hid (show Agrees (fun b => b ≠ w.heap.size + 1 + 1) W9 (W9.setRow (w.heap.size + 1 + 1) (DV.mk pa' pn' pc' a8 (cn' + 1) c8 ba' bn' bc' off'').cells) from (Agrees.refl _ W9).setRow (.inl (fun h => h rfl)) _)
    clear hrow hob hg8 hcl8 hown8 hgr8 hA9 HU0 HU2 HD8 HT0 HT2 HD7 HO7 c1
    go_wp2_with (first | (refine wpList_val rfl (ex_load (ty := 37) rfl isAgg_disk w.heap.size 0 rfl (DV.mk pa' pn' pc' a8 (cn' + 1) c8 ba' bn' bc' off'').cells rfl (DV.load _ HX0.out)) ?_) | (refine wpList_unit rfl (ex_storeAll (ty := 37) rfl isAgg_disk.2 (w.heap.size + 1 + 1) rfl (DV.mk pa' pn' pc' a8 (cn' + 1) c8 ba' bn' bc' off'').cells DV.zero.cells rfl rfl HX2.out rfl (DV.one _)) ?_))
    refine bodyPost_ret (results_a1t1 rfl _ (b := w.heap.size + 1 + 1) rfl isAgg_disk (vs := (DV.mk pa' pn' pc' a8 (cn' + 1) c8 ba' bn' bc' off'').cells) rfl (DV.load _ HROW.out)) rfl ⟨⟨pa', pn', pc', a8, cn' + 1, c8, ba', bn', bc', off''⟩, ?_, Lib.hid ⟨?_, HA9.out.setRow (.inr (by omega)) _⟩⟩
    · rw [HWR.out.2]; rfl
    · rw [HWR.out.1]
      exact (HD9.out.agrees HAF.out (fun b hb e => by omega)).base (by omega)
  all_goals
    obtain ⟨E, hE⟩ : ∃ E, E = d.writeE at' := ⟨_, rfl⟩
    have hE0 : E ≠ 0 := by rw [hE, HWE.out]; simp [h0, h1]
    have HWR : RowKit.Hid (d.write at' p = d) := by
      refine Lib.hid ?_
      unfold Disk.write
      rw [← hE, if_neg hE0]
    rw [HWE.out] at hE
    have hrow := setRow_heap W6 (w.heap.size + 1 + 1) _ v'.cells _ _ HS2.out
    have HROW := Lib.hid hrow
    have HAF := Lib.hid (show Agrees (fun b => b ≠ w.heap.size + 1 + 1) W6 (W6.setRow (w.heap.size + 1 + 1) v'.cells) from (Agrees.refl _ W6).setRow (.inl (fun h => h rfl)) _)
    clear hrow
    go_wp2_with (first | (refine wpList_unit rfl (ex_storeAll (ty := 37) rfl isAgg_disk.2 w.heap.size rfl v'.cells (DV.mk pa pn pc ca cn cc ba bn bc off).cells rfl rfl HP0.out rfl (DV.one _)) ?_; rw [hW6]) | (refine wpList_val rfl (ex_load (ty := 37) rfl isAgg_disk w.heap.size 0 rfl v'.cells rfl (DV.load _ HS0.out)) ?_) | (refine wpList_unit rfl (ex_storeAll (ty := 37) rfl isAgg_disk.2 (w.heap.size + 1 + 1) rfl v'.cells DV.zero.cells rfl rfl HS2.out rfl (DV.one _)) ?_))
    refine bodyPost_ret (results_a1t1 rfl _ (b := w.heap.size + 1 + 1) rfl isAgg_disk (vs := v'.cells) rfl (DV.load _ HROW.out)) rfl ⟨v', ?_, Lib.hid ⟨?_, HA6.out.setRow (.inr (by omega)) _⟩⟩
    · rw [HWE.out]; simp [h0, h1]
    · rw [HWR.out]
      exact (HD6.out.agrees HAF.out (fun b hb e => by omega)).base (by omega)
end Suture
