/-
  suturelaw11.FetchWrites answers true: at most as many writes are burnt as copies are bad, none with the power off; no page is changed; each new write fits the pointer.
  Conditions: none beyond the pair's own reading.
-/
import Derived.Test.YtmkbchhmeaefeaaFW1
namespace Suture
open Go Go.RowKit Go.Proofs
attribute [local go_sem] Oper.semAt_some

/-- the boxes of the law -/
structure WRows (W : World) (n a : Nat) (ov v : PV) (x : Ptr) (t : Tal) : Prop where
  r0 : W.heap[n]? = some (.cells v.cells 40 (0, 0))
  r1 : W.heap[n + 1]? = some (.cells x.cells 48 (0, 0))
  r6 : W.heap[a + 1]? = some (.cells ov.cells 40 (0, 0))
  r7 : W.heap[a + 1 + 1]? = some (.cells t.cells 57 (0, 0))
theorem WRows.agrees {W W' : World} {n a : Nat} {v ov : PV} {x : Ptr} {t : Tal} (h : WRows W n a ov v x t) (g : Agrees All W W') : WRows W' n a ov v x t := by
  have k : ∀ {b : Nat} {o : Obj}, W.heap[b]? = some o → W'.heap[b]? = some o := fun hb => (g.block _ (Array.getElem?_eq_some_iff.1 hb).1 trivial).trans hb
  exact ⟨k h.r0, k h.r1, k h.r6, k h.r7⟩
theorem WRows.vals {W : World} {n a : Nat} {v ov : PV} {x : Ptr} {tr tb tm : Int} (h : WRows W n a ov v x ⟨tr, tb, tm⟩) :
    W.cell? ⟨n, 8, none⟩ = some (.int .i64 v.fuse) ∧ W.cell? ⟨n, 9, none⟩ = some (.bool v.down) ∧ W.cell? ⟨a + 1, 8, none⟩ = some (.int .i64 ov.fuse) ∧ W.cell? ⟨a + 1, 9, none⟩ = some (.bool ov.down) ∧ W.cell? ⟨a + 1 + 1, 1, none⟩ = some (.int .i64 tb) := by
  refine ⟨?_, ?_, ?_, ?_, ?_⟩
  · rw [cell_of_row _ _ _ _ _ _ h.r0]; rfl
  · rw [cell_of_row _ _ _ _ _ _ h.r0]; rfl
  · rw [cell_of_row _ _ _ _ _ _ h.r6]; rfl
  · rw [cell_of_row _ _ _ _ _ _ h.r6]; rfl
  · rw [cell_of_row _ _ _ _ _ _ h.r7]; rfl
/-- what stands of a disk in the two pairs -/
structure WCells (W : World) (b2 b6 i : Nat) (d o : DV) : Prop where
  g0 : W.cell? ⟨b2, i * 4, none⟩ = some (.slice d.pa d.pn d.pc)
  g1 : W.cell? ⟨b2, i * 4 + 1, none⟩ = some (.slice d.ca d.cn d.cc)
  g2 : W.cell? ⟨b2, i * 4 + 2, none⟩ = some (.slice d.ba d.bn d.bc)
  g3 : W.cell? ⟨b2, i * 4 + 3, none⟩ = some (.bool d.off)
  q0 : W.cell? ⟨b6, i * 4, none⟩ = some (.slice o.pa o.pn o.pc)
  q1 : W.cell? ⟨b6, i * 4 + 1, none⟩ = some (.slice o.ca o.cn o.cc)
  q2 : W.cell? ⟨b6, i * 4 + 2, none⟩ = some (.slice o.ba o.bn o.bc)
  q3 : W.cell? ⟨b6, i * 4 + 3, none⟩ = some (.bool o.off)
  h2 : b2 < W.heap.size
  h6 : b6 < W.heap.size
theorem WRows.cells {W : World} {n a : Nat} {v ov : PV} {x : Ptr} {t : Tal} (h : WRows W n a ov v x t) (i : Nat) (hi : i < 2) {d o : DV} (hd : v.disk i = d) (ho : ov.disk i = o) : WCells W n (a + 1) i d o := by
  obtain ⟨a0, a1, a2, a3⟩ := v.cellsDisk h.r0 i hi hd
  obtain ⟨b0, b1, b2, b3⟩ := ov.cellsDisk h.r6 i hi ho
  exact ⟨a0, a1, a2, a3, b0, b1, b2, b3, (Array.getElem?_eq_some_iff.1 h.r0).1, (Array.getElem?_eq_some_iff.1 h.r6).1⟩
theorem wrap_small' {z : Int} (h : 0 ≤ z) (h2 : z ≤ 9223372036854775807) : IntKind.i64.wrap z = z := by rw [IntKind.wrap_i64]; omega
theorem PairW.disk {x : Ptr} {n : Nat} {P O : Pair} {e : Int} (h : PairW x n P O e) (i : Nat) : DiskW x (P.disk i) (O.disk i) := by
  unfold Pair.disk
  split
  · exact h.d0
  · exact h.d1

set_option maxHeartbeats 16000000 in
set_option maxRecDepth 100000 in
theorem fetchWrites_calls (v : PV) (P : Pair) (x : Ptr) (hx : x.ok) (w : World) (hv : PairAt All w v P) :
    Calls Try.prog 11 #[.agg v.cells, .agg x.cells] w fun e w' => e = .returned (.bool true) ∧ Agrees All w w' := by
  obtain ⟨W1, hW1⟩ : ∃ W1, w.alloc (.cells v.cells 40) = W1 := ⟨_, rfl⟩
  obtain ⟨W2, hW2⟩ : ∃ W2, W1.alloc (.cells x.cells 48) = W2 := ⟨_, rfl⟩
  have hs1 : W1.heap.size = w.heap.size + 1 := by rw [← hW1]; simp
  have hA2 : Agrees All w W2 := by rw [← hW2, ← hW1]; exact ((Agrees.refl _ w).alloc _).alloc _
  have HR0 := Lib.hid (show W2.heap[w.heap.size]? = some (.cells v.cells 40 (0, 0)) by rw [← hW2, ← hW1]; exact row_old (row_new _ rfl))
  have HR1 := Lib.hid (show W2.heap[w.heap.size + 1]? = some (.cells x.cells 48 (0, 0)) by rw [← hW2]; exact row_new _ hs1)
  have HG := Lib.hid (great_calls v P W2 (hv.agrees hA2 fun _ h => h))
  have HV := Lib.hid hv
  have HA2 := Lib.hid hA2
  have HSD := Lib.hid (scan_down (P := P) (x := x))
  have HSW := Lib.hid (scan_writes (P := P) (x := x))
  have HLL := Lib.hid (P.look_len x true fun c => Disk.read_len _ (HV.out.disk _).ok _)
  clear hv hA2
  have hss : ∃ ss, P.look x true = ss := ⟨_, rfl⟩
  obtain ⟨ss, hss⟩ := hss
  rw [hss] at HSD HSW HLL
  obtain ⟨pg, OP, ⟨tr, tb, tm⟩, er⟩ := ss
  have HPG := Lib.hid (show (pageCells pg).size = 256 by rw [pageCells_size]; exact HLL.out)
  have HPN := Lib.hid (show (pageCells noPage).size = 256 by rw [pageCells_size]; exact noPage_len)
  have HSS := Lib.hid hss
  clear hss HLL
  go_enter Try.func11, Try.ntmps11
  refine wp_cut3 (Here (fun (p : Nat × PV) u => (u 0 :: u 1 :: (.pointer (some ⟨w.heap.size, 0, none⟩) : Value) :: (.pointer (some ⟨w.heap.size + 1, 0, none⟩) : Value) :: u 4 :: u 5 :: (.pointer (some ⟨p.1 + 1, 0, none⟩) : Value) :: (.pointer (some ⟨p.1 + 1 + 1, 0, none⟩) : Value) :: (.int .i64 er : Value) :: u 9 :: u 10 :: u 11 :: u 12 :: u 13 :: u 14 :: u 15 :: u 16 :: u 17 :: u 18 :: u 19 :: u 20 :: u 21 :: u 22 :: u 23 :: u 24 :: u 25 :: u 26 :: u 27 :: u 28 :: u 29 :: u 30 :: u 31 :: u 32 :: u 33 :: u 34 :: u 35 :: u 36 :: u 37 :: u 38 :: u 39 :: u 40 :: u 41 :: u 42 :: u 43 :: u 44 :: u 45 :: u 46 :: u 47 :: u 48 :: u 49 :: u 50 :: u 51 :: u 52 :: u 53 :: u 54 :: u 55 :: u 56 :: u 57 :: u 58 :: u 59 :: u 60 :: u 61 :: u 62 :: u 63 :: u 64 :: u 65 :: u 66 :: u 67 :: u 68 :: u 69 :: u 70 :: u 71 :: u 72 :: u 73 :: u 74 :: u 75 :: u 76 :: u 77 :: u 78 :: u 79 :: u 80 :: u 81 :: u 82 :: u 83 :: u 84 :: u 85 :: u 86 :: u 87 :: u 88 :: u 89 :: u 90 :: u 91 :: u 92 :: u 93 :: u 94 :: u 95 :: u 96 :: u 97 :: u 98 :: u 99 :: u 100 :: u 101 :: u 102 :: u 103 :: u 104 :: u 105 :: u 106 :: u 107 :: u 108 :: u 109 :: u 110 :: u 111 :: u 112 :: u 113 :: u 114 :: u 115 :: u 116 :: u 117 :: u 118 :: u 119 :: u 120 :: u 121 :: u 122 :: u 123 :: u 124 :: u 125 :: u 126 :: u 127 :: u 128 :: u 129 :: u 130 :: u 131 :: u 132 :: u 133 :: u 134 :: u 135 :: u 136 :: u 137 :: u 138 :: u 139 :: u 140 :: u 141 :: u 142 :: u 143 :: u 144 :: u 145 :: u 146 :: u 147 :: u 148 :: u 149 :: u 150 :: u 151 :: u 152 :: u 153 :: u 154 :: u 155 :: u 156 :: u 157 :: u 158 :: u 159 :: u 160 :: u 161 :: u 162 :: u 163 :: u 164 :: u 165 :: u 166 :: u 167 :: u 168 :: u 169 :: u 170 :: u 171 :: u 172 :: u 173 :: u 174 :: u 175 :: u 176 :: u 177 :: u 178 :: u 179 :: u 180 :: u 181 :: u 182 :: u 183 :: u 184 :: u 185 :: u 186 :: u 187 :: u 188 :: u 189 :: u 190 :: u 191 :: u 192 :: u 193 :: u 194 :: u 195 :: u 196 :: u 197 :: u 198 :: u 199 :: u 200 :: u 201 :: u 202 :: u 203 :: u 204 :: u 205 :: u 206 :: u 207 :: u 208 :: u 209 :: u 210 :: u 211 :: u 212 :: u 213 :: []).toArray) (fun p W => WRows W w.heap.size p.1 p.2 v x ⟨tr, tb, tm⟩ ∧ PairAt All W p.2 OP ∧ Agrees All w W)) ?part1 ?part2
  case part1 =>
    intro K1 K2 hK1 hK2
    go_wp2_with (refine wpList_val rfl (ex_load (ty := 40) rfl isAgg_pair w.heap.size 0 rfl v.cells rfl (v.load HR0.out)) ?_)
    refine HG.out.mono ?_
    rintro e W3 ⟨rfl, hag⟩
    have HA3 := Lib.hid (HA2.out.trans hag)
    have HQ0 := Lib.hid ((hag.block _ (Array.getElem?_eq_some_iff.1 HR0.out).1 trivial).trans HR0.out)
    have HQ1 := Lib.hid ((hag.block _ (Array.getElem?_eq_some_iff.1 HR1.out).1 trivial).trans HR1.out)
    clear hag HR0 HR1 HG HA2 hW1 hW2 hs1
    cases hgr : P.great
    · have HLOW := Lib.hid (great_low hgr)
      have HSC := Lib.hid (fscan_calls All v P x hx W3 (HV.out.agrees HA3.out fun _ h => h) HLOW.out)
      rw [HSS.out] at HSC
      clear hgr
      go_wp2_with (first
        | (refine wpList_val rfl (ex_load (ty := 40) rfl isAgg_pair w.heap.size 0 rfl v.cells rfl (v.load HQ0.out)) ?_)
        | (refine wpList_val rfl (ex_load (ty := 48) rfl isAgg_ptr (w.heap.size + 1) 0 rfl x.cells rfl (x.load HQ1.out)) ?_))
      refine HSC.out.mono ?_
      rintro e W4 ⟨ov, rfl, hov, hag⟩
      obtain ⟨A1, A2, A3, S1, S2, W5, hA1, hA2, hA3, hS1, hS2, hS3, hsA1, hsA2, hz1, hz2, hz3, hr5, hr6, hr7, hg5⟩ := box_new3 W4 (pageCells noPage) PV.zero.cells (Tal.mk 0 0 0).cells (pageCells pg) ov.cells (Tal.mk tr tb tm).cells 32 40 57
      have hg := hag.trans hg5
      have HZ1 := Lib.hid hz1
      have HZ2 := Lib.hid hz2
      have HZ3 := Lib.hid hz3
      have HO := Lib.hid ((hov.mono (S := All) fun _ _ => trivial).agrees hg5 fun _ _ => trivial)
      have HA5 := Lib.hid (HA3.out.trans hg)
      have HWR : RowKit.Hid (WRows W5 w.heap.size W4.heap.size ov v x ⟨tr, tb, tm⟩) := Lib.hid ⟨(hg.block _ (Array.getElem?_eq_some_iff.1 HQ0.out).1 trivial).trans HQ0.out, (hg.block _ (Array.getElem?_eq_some_iff.1 HQ1.out).1 trivial).trans HQ1.out, hr6, hr7⟩
      clear hz1 hz2 hz3 hr5 hr6 hr7 hg5 hg hag hov HQ0 HQ1 HA3 HSC
      go_wp2_with (first
        | (refine wpList_val rfl (ex_alloc rfl (.agg (pageCells noPage)) zero_page) ?_; rw [show (Value.agg (pageCells noPage)).cells = pageCells noPage from rfl, hA1])
        | (refine wpList_val rfl (ex_alloc rfl (.agg PV.zero.cells) zero_pair) ?_; rw [show (Value.agg PV.zero.cells).cells = PV.zero.cells from rfl, hA2, hsA1])
        | (refine wpList_val rfl (ex_alloc rfl (.agg (Tal.mk 0 0 0).cells) zero_tally) ?_; rw [show (Value.agg (Tal.mk 0 0 0).cells).cells = (Tal.mk 0 0 0).cells from rfl, hA3, hsA2])
        | (refine wpList_unit rfl (ex_storeAll (ty := 32) rfl isAgg_page.2 W4.heap.size rfl (pageCells pg) (pageCells noPage) rfl HPG.out HZ1.out HPN.out (pageCells_one _)) ?_; rw [hS1])
        | (refine wpList_unit rfl (ex_storeAll (ty := 40) rfl isAgg_pair.2 (W4.heap.size + 1) rfl ov.cells PV.zero.cells rfl rfl HZ2.out rfl (PV.one _)) ?_; rw [hS2])
        | (refine wpList_unit rfl (ex_storeAll (ty := 57) rfl isAgg_tally.2 (W4.heap.size + 1 + 1) rfl (Tal.mk tr tb tm).cells (Tal.mk 0 0 0).cells rfl rfl HZ3.out rfl (Tal.one _)) ?_; rw [hS3]))
      exact here_of (W4.heap.size, ov) (by rfl) rfl ⟨HWR.out, HO.out, HA5.out⟩
    · go_wp2_with fail
      refine (wakes_calls W3).mono ?_
      rintro e W4 ⟨rfl, hag⟩
      have HF := Lib.hid (HA3.out.trans hag)
      clear hag
      go_wp2_with fail
      go_ret
      exact ⟨rfl, HF.out⟩
  case part2 =>
    rintro a' W5 ⟨⟨a, ov⟩, u, rfl, hwr, ho, hag5⟩
    have HWR := Lib.hid hwr
    have HO := Lib.hid ho
    have HA5 := Lib.hid hag5
    clear hwr ho hag5 hW1 hW2 hs1 HR0 HR1 HG HA2 HPG HPN HSS
    simp only
    obtain ⟨c8, c9, o8, o9, t1⟩ := HWR.out.vals
    cases hdn : P.down
    · have hvd : v.down = false := by rw [← HV.out.down]; exact hdn
      rw [hvd] at c9
      obtain ⟨tbn, rfl, htb4, hpw⟩ := HSW.out hdn
      have HPW := Lib.hid hpw
      have hfv := HV.out.fuse
      have hfo := HO.out.fuse
      have hvin := HV.out.in64
      have hF : (0 ≤ v.fuse → 0 ≤ ov.fuse ∧ ov.fuse ≤ v.fuse ∧ v.fuse - ov.fuse ≤ tbn) ∧ (v.fuse < 0 → ov.fuse = v.fuse ∧ ov.down = false) := by
        rw [← hfv, ← hfo, ← HO.out.down]
        exact ⟨hpw.fuse, hpw.none⟩
      have HFU := Lib.hid hF
      have HIN := Lib.hid hvin
      have HOD := Lib.hid (HO.out.down.symm.trans hpw.down)
      clear hpw hfv hfo hvin hF htb4 hdn hvd HSD HSW
      refine wp_cut2 (Here (fun (_ : Unit) u => (u 0 :: u 1 :: (.pointer (some ⟨w.heap.size, 0, none⟩) : Value) :: (.pointer (some ⟨w.heap.size + 1, 0, none⟩) : Value) :: u 4 :: u 5 :: (.pointer (some ⟨a + 1, 0, none⟩) : Value) :: u 7 :: (.int .i64 er : Value) :: u 9 :: u 10 :: u 11 :: u 12 :: u 13 :: u 14 :: u 15 :: u 16 :: u 17 :: u 18 :: u 19 :: u 20 :: u 21 :: u 22 :: u 23 :: u 24 :: u 25 :: u 26 :: u 27 :: u 28 :: u 29 :: u 30 :: u 31 :: u 32 :: u 33 :: u 34 :: u 35 :: u 36 :: u 37 :: u 38 :: u 39 :: u 40 :: u 41 :: u 42 :: u 43 :: u 44 :: u 45 :: u 46 :: u 47 :: u 48 :: u 49 :: u 50 :: u 51 :: u 52 :: u 53 :: u 54 :: u 55 :: u 56 :: u 57 :: u 58 :: u 59 :: u 60 :: u 61 :: u 62 :: u 63 :: u 64 :: u 65 :: u 66 :: u 67 :: u 68 :: u 69 :: u 70 :: u 71 :: u 72 :: u 73 :: u 74 :: u 75 :: u 76 :: u 77 :: u 78 :: u 79 :: u 80 :: u 81 :: u 82 :: u 83 :: u 84 :: u 85 :: u 86 :: u 87 :: u 88 :: u 89 :: u 90 :: u 91 :: u 92 :: u 93 :: u 94 :: u 95 :: u 96 :: u 97 :: u 98 :: u 99 :: u 100 :: u 101 :: u 102 :: u 103 :: u 104 :: u 105 :: u 106 :: u 107 :: u 108 :: u 109 :: u 110 :: u 111 :: u 112 :: u 113 :: u 114 :: u 115 :: u 116 :: u 117 :: u 118 :: u 119 :: u 120 :: u 121 :: u 122 :: u 123 :: u 124 :: u 125 :: u 126 :: u 127 :: u 128 :: u 129 :: u 130 :: u 131 :: u 132 :: u 133 :: u 134 :: u 135 :: u 136 :: u 137 :: u 138 :: u 139 :: u 140 :: u 141 :: u 142 :: u 143 :: u 144 :: u 145 :: u 146 :: u 147 :: u 148 :: u 149 :: u 150 :: u 151 :: u 152 :: u 153 :: u 154 :: u 155 :: u 156 :: u 157 :: u 158 :: u 159 :: u 160 :: u 161 :: u 162 :: u 163 :: u 164 :: u 165 :: u 166 :: u 167 :: u 168 :: u 169 :: u 170 :: u 171 :: u 172 :: u 173 :: u 174 :: u 175 :: u 176 :: u 177 :: u 178 :: u 179 :: u 180 :: u 181 :: u 182 :: u 183 :: u 184 :: u 185 :: u 186 :: u 187 :: u 188 :: u 189 :: u 190 :: u 191 :: u 192 :: u 193 :: u 194 :: u 195 :: u 196 :: u 197 :: u 198 :: u 199 :: u 200 :: u 201 :: u 202 :: u 203 :: u 204 :: u 205 :: u 206 :: u 207 :: u 208 :: u 209 :: u 210 :: u 211 :: u 212 :: u 213 :: []).toArray) (fun _ W => Agrees All W5 W)) ?part3 ?part4
      case part3 =>
        intro K1 hK1
        generalize v.fuse = fu at *
        generalize ov.fuse = fo at *
        generalize ov.down = od at *
        obtain ⟨q, hq⟩ : ∃ q, IntKind.i64.wrap (fu - fo) = q := ⟨_, rfl⟩
        by_cases h0 : 0 ≤ fu
        · obtain ⟨f1, f2, f3⟩ := HFU.out.1 h0
          have hq2 : q = fu - fo := by
            rw [← hq]
            have := HIN.out
            unfold in64 at this
            exact wrap_small' (by omega) (by omega)
          have hd1 : decide (fu < fo) = false := decide_eq_false (by omega)
          have hd2 : decide ((tbn : Int) < q) = false := decide_eq_false (by omega)
          have hd3 : decide (fu < 0) = false := decide_eq_false (by omega)
          clear f1 f2 f3 hq2 HFU HIN
          go_wp2_with fail
          exact here_of () (by rfl) rfl (Agrees.refl _ _)
        · obtain ⟨rfl, rfl⟩ := HFU.out.2 (by omega)
          have hd3 : decide (fo < 0) = true := decide_eq_true (by omega)
          have hd4 : decide (0 ≤ fo) = false := decide_eq_false h0
          clear HFU HIN h0
          go_wp2_with fail
          exact here_of () (by rfl) rfl (Agrees.refl _ _)
      case part4 =>
        rintro a' W6 ⟨_, u2, rfl, hag6⟩
        simp only
        have HA6 := Lib.hid hag6
        clear hag6 c8 c9 o8 o9 t1
        go_wp2_with fail
        go_loopw [9] (fun ii wr => ∃ i : Nat, i ≤ 2 ∧ ii = .int .i64 i ∧ RowKit.Hid (Agrees All W5 wr)) (fun ii _ => 2 - (intOf ii).toNat)
        case atStart => exact ⟨0, by omega, rfl, HA6⟩
        case round =>
          obtain ⟨i, hi, rfl, HW⟩ := hrel
          by_cases hi2 : i < 2
          · have HDW := Lib.hid (HPW.out.disk i)
            have HDA := Lib.hid (HV.out.disk i)
            have HOA := Lib.hid (HO.out.disk i)
            have HCL : RowKit.Hid (∀ W, Agrees All W5 W → WCells W w.heap.size (a + 1) i (v.disk i) (ov.disk i)) := Lib.hid fun W g => (HWR.out.agrees g).cells i hi2 rfl rfl
            generalize v.disk i = dv at *
            generalize ov.disk i = od at *
            generalize P.disk i = D at *
            generalize OP.disk i = O at *
            obtain ⟨pa, pn, pc, ca, cn, cc, ba, bn, bc, off⟩ := dv
            obtain ⟨pa', pn', pc', ca', cn', cc', ba', bn', bc', off'⟩ := od
            obtain rfl : pn = pn' := HDA.out.pn.symm.trans ((congrArg List.length HDW.out.pages).symm.trans HOA.out.pn)
            obtain rfl : bn = bn' := HDA.out.bn.symm.trans ((congrArg List.length HDW.out.bad).symm.trans HOA.out.bn)
            obtain rfl : off = off' := HDA.out.off.symm.trans (HDW.out.off.symm.trans HOA.out.off)
            have hcn : cn ≤ cn' := by
              obtain ⟨l, hl, _⟩ := HDW.out.cache
              have h1 := HDA.out.cn
              have h2 := HOA.out.cn
              rw [hl, List.length_append] at h2
              simp only at h1 h2
              omega
            have hmp : pn ≤ 9223372036854775807 := HDA.out.pages.max.1
            have hmc : cn' ≤ 9223372036854775807 := HOA.out.cache.max.1
            obtain ⟨W0, hW0⟩ : ∃ W0, wr.drew = W0 := ⟨_, rfl⟩
            have HG0 : RowKit.Hid (Agrees All W5 W0) := by rw [← hW0]; exact Lib.hid HW.out.drew
            obtain ⟨g0, g1, g2, g3, q0, q1, q2, q3, h2, h6⟩ := HCL.out wr HW.out
            dsimp only at g0 g1 g2 g3 q0 q1 q2 q3
            go_wp2_with fail
            clear g0 g1 g2 g3 q0 q1 q2 q3 h2 h6
            obtain ⟨g0, g1, g2, g3, q0, q1, q2, q3, h2, h6⟩ := HCL.out W0 HG0.out
            dsimp only at g0 g1 g2 g3 q0 q1 q2 q3
            refine wp_region_plan (by kernel_rfl) ?hok12 (by kernel_rfl) (vFw12 w.heap.size (a + 1) i pn cn cn' bn pc pc' cc' bc bc' pa pa' ca' ba ba' off) (fun _ _ W => Agrees All W0 W) ?h012 (fun m hm => ?steps12) ?hend12
            case hok12 => kernel_rfl
            case h012 => exact fun vals => by rw [hW0]; exact Agrees.refl _ _
            case steps12 =>
              generalize w.heap.size = pb2 at *
              generalize a + 1 = pb6 at *
              have hm' : m < 51 := hm
              match m, hm' with
              | 0, _ =>
                refine steps_of rfl ?_
                intro L aq wq hL hd st wi
                have o9 := st.outside (t := 9) rfl (v := .int .i64 (i : Int)) rfl
                exact opTo_val (v := .int .i64 (i : Int)) rfl (ex_move (.inl rfl) (eval_tmp o9)) ⟨(fun h => by cases h), rfl, wi⟩
              | 1, _ =>
                refine steps_of rfl ?_
                intro L aq wq hL hd st wi
                have o6 := st.outside (t := 6) rfl (v := .pointer (some ⟨pb6, 0, none⟩)) rfl
                exact opTo_val (v := .pointer (some ⟨pb6, 0, none⟩)) rfl (by simp [go_sem, Act.eval, o6]) ⟨(fun h => by cases h), rfl, wi⟩
              | 2, _ =>
                refine steps_of rfl ?_
                intro L aq wq hL hd st wi
                obtain ⟨u1, e1, V1⟩ := st.val 1 _ _ rfl rfl (hd ⟨1, .data⟩ (by simp) rfl)
                obtain rfl : .pointer (some ⟨pb6, 0, none⟩) = u1 := V1.symm
                obtain ⟨u0, e0, V0⟩ := st.val 0 _ _ rfl rfl (hd ⟨0, .data⟩ (by simp) rfl)
                obtain rfl : .int .i64 (i : Int) = u0 := V0.symm
                exact opTo_val (v := .pointer (some ⟨pb6, i * 4, none⟩)) rfl (by have := hi2; simp [go_sem, Act.eval, e0, e1]; omega) ⟨(fun h => by cases h), rfl, wi⟩
              | 3, _ =>
                refine steps_of rfl ?_
                intro L aq wq hL hd st wi
                obtain ⟨u2, e2, V2⟩ := st.val 2 _ _ rfl rfl (hd ⟨2, .data⟩ (by simp) rfl)
                obtain rfl : .pointer (some ⟨pb6, i * 4, none⟩) = u2 := V2.symm
                exact opTo_val (v := .pointer (some ⟨pb6, i * 4, none⟩)) rfl (by simp [go_sem, Act.eval, e2]) ⟨(fun h => by cases h), rfl, wi⟩
              | 4, _ =>
                refine steps_of rfl ?_
                intro L aq wq hL hd st wi
                obtain ⟨u3, e3, V3⟩ := st.val 3 _ _ rfl rfl (hd ⟨3, .data⟩ (by simp) rfl)
                obtain rfl : .pointer (some ⟨pb6, i * 4, none⟩) = u3 := V3.symm
                exact opTo_val (v := .slice pa' pn pc') rfl (ex_load1 (ty := 33) rfl onePagesL (eval_tmp e3) ((wi.cell (p := ⟨pb6, i * 4, none⟩) h6 trivial).trans q0)) ⟨(fun h => by cases h), rfl, wi⟩
              | 5, _ =>
                refine steps_of rfl ?_
                intro L aq wq hL hd st wi
                obtain ⟨u4, e4, V4⟩ := st.val 4 _ _ rfl rfl (hd ⟨4, .data⟩ (by simp) rfl)
                obtain rfl : .slice pa' pn pc' = u4 := V4.symm
                exact opTo_val (v := .int .i64 (pn : Int)) rfl (by simp [go_sem, Act.eval, e4]) ⟨(fun h => by cases h), rfl, wi⟩
              | 6, _ =>
                refine steps_of rfl ?_
                intro L aq wq hL hd st wi
                have o9 := st.outside (t := 9) rfl (v := .int .i64 (i : Int)) rfl
                exact opTo_val (v := .int .i64 (i : Int)) rfl (ex_move (.inl rfl) (eval_tmp o9)) ⟨(fun h => by cases h), rfl, wi⟩
              | 7, _ =>
                refine steps_of rfl ?_
                intro L aq wq hL hd st wi
                have o2 := st.outside (t := 2) rfl (v := .pointer (some ⟨pb2, 0, none⟩)) rfl
                exact opTo_val (v := .pointer (some ⟨pb2, 0, none⟩)) rfl (by simp [go_sem, Act.eval, o2]) ⟨(fun h => by cases h), rfl, wi⟩
              | 8, _ =>
                refine steps_of rfl ?_
                intro L aq wq hL hd st wi
                obtain ⟨u7, e7, V7⟩ := st.val 7 _ _ rfl rfl (hd ⟨7, .data⟩ (by simp) rfl)
                obtain rfl : .pointer (some ⟨pb2, 0, none⟩) = u7 := V7.symm
                obtain ⟨u6, e6, V6⟩ := st.val 6 _ _ rfl rfl (hd ⟨6, .data⟩ (by simp) rfl)
                obtain rfl : .int .i64 (i : Int) = u6 := V6.symm
                exact opTo_val (v := .pointer (some ⟨pb2, i * 4, none⟩)) rfl (by have := hi2; simp [go_sem, Act.eval, e6, e7]; omega) ⟨(fun h => by cases h), rfl, wi⟩
              | 9, _ =>
                refine steps_of rfl ?_
                intro L aq wq hL hd st wi
                obtain ⟨u8, e8, V8⟩ := st.val 8 _ _ rfl rfl (hd ⟨8, .data⟩ (by simp) rfl)
                obtain rfl : .pointer (some ⟨pb2, i * 4, none⟩) = u8 := V8.symm
                exact opTo_val (v := .pointer (some ⟨pb2, i * 4, none⟩)) rfl (by simp [go_sem, Act.eval, e8]) ⟨(fun h => by cases h), rfl, wi⟩
              | 10, _ =>
                refine steps_of rfl ?_
                intro L aq wq hL hd st wi
                obtain ⟨u9, e9, V9⟩ := st.val 9 _ _ rfl rfl (hd ⟨9, .data⟩ (by simp) rfl)
                obtain rfl : .pointer (some ⟨pb2, i * 4, none⟩) = u9 := V9.symm
                exact opTo_val (v := .slice pa pn pc) rfl (ex_load1 (ty := 33) rfl onePagesL (eval_tmp e9) ((wi.cell (p := ⟨pb2, i * 4, none⟩) h2 trivial).trans g0)) ⟨(fun h => by cases h), rfl, wi⟩
              | 11, _ =>
                refine steps_of rfl ?_
                intro L aq wq hL hd st wi
                obtain ⟨u10, e10, V10⟩ := st.val 10 _ _ rfl rfl (hd ⟨10, .data⟩ (by simp) rfl)
                obtain rfl : .slice pa pn pc = u10 := V10.symm
                exact opTo_val (v := .int .i64 (pn : Int)) rfl (by simp [go_sem, Act.eval, e10]) ⟨(fun h => by cases h), rfl, wi⟩
              | 12, _ =>
                refine steps_of rfl ?_
                intro L aq wq hL hd st wi
                obtain ⟨u5, e5, V5⟩ := st.val 5 _ _ rfl rfl (hd ⟨5, .data⟩ (by simp) rfl)
                obtain rfl : .int .i64 (pn : Int) = u5 := V5.symm
                obtain ⟨u11, e11, V11⟩ := st.val 11 _ _ rfl rfl (hd ⟨11, .data⟩ (by simp) rfl)
                obtain rfl : .int .i64 (pn : Int) = u11 := V11.symm
                exact opTo_val (v := .bool false) rfl (by simp [go_sem, Act.eval, e5, e11]) ⟨(fun h => by cases h), rfl, wi⟩
              | 13, _ =>
                refine steps_of rfl ?_
                intro L aq wq hL hd st wi
                obtain ⟨u12, e12, V12⟩ := st.val 12 _ _ rfl rfl (hd ⟨12, .data⟩ (by simp) rfl)
                obtain rfl : .bool false = u12 := V12.symm
                exact opTo_val (v := .bool false) rfl (ex_move (.inl rfl) (eval_tmp e12)) ⟨(fun h => by cases h), rfl, wi⟩
              | 14, _ =>
                refine steps_of rfl ?_
                intro L aq wq hL hd st wi
                have o9 := st.outside (t := 9) rfl (v := .int .i64 (i : Int)) rfl
                obtain ⟨u13, e13, V13⟩ := st.val 13 _ _ rfl rfl (hd ⟨13, .guard⟩ (by simp) rfl)
                obtain rfl : .bool false = u13 := V13.symm
                exact opTo_val (v := .int .i64 (i : Int)) (by simp [Region.wanted, yielded, e13]) (ex_move (.inl rfl) (eval_tmp o9)) ⟨(fun h => by cases h), rfl, wi⟩
              | 15, _ =>
                refine steps_of rfl ?_
                intro L aq wq hL hd st wi
                have o6 := st.outside (t := 6) rfl (v := .pointer (some ⟨pb6, 0, none⟩)) rfl
                obtain ⟨u13, e13, V13⟩ := st.val 13 _ _ rfl rfl (hd ⟨13, .guard⟩ (by simp) rfl)
                obtain rfl : .bool false = u13 := V13.symm
                exact opTo_val (v := .pointer (some ⟨pb6, 0, none⟩)) (by simp [Region.wanted, yielded, e13]) (by simp [go_sem, Act.eval, o6]) ⟨(fun h => by cases h), rfl, wi⟩
              | 16, _ =>
                refine steps_of rfl ?_
                intro L aq wq hL hd st wi
                obtain ⟨u15, e15, V15⟩ := st.val 15 _ _ rfl rfl (hd ⟨15, .data⟩ (by simp) rfl)
                obtain rfl : .pointer (some ⟨pb6, 0, none⟩) = u15 := V15.symm
                obtain ⟨u14, e14, V14⟩ := st.val 14 _ _ rfl rfl (hd ⟨14, .data⟩ (by simp) rfl)
                obtain rfl : .int .i64 (i : Int) = u14 := V14.symm
                obtain ⟨u13, e13, V13⟩ := st.val 13 _ _ rfl rfl (hd ⟨13, .guard⟩ (by simp) rfl)
                obtain rfl : .bool false = u13 := V13.symm
                exact opTo_val (v := .pointer (some ⟨pb6, i * 4, none⟩)) (by simp [Region.wanted, yielded, e13]) (by have := hi2; simp [go_sem, Act.eval, e14, e15]; omega) ⟨(fun h => by cases h), rfl, wi⟩
              | 17, _ =>
                refine steps_of rfl ?_
                intro L aq wq hL hd st wi
                obtain ⟨u16, e16, V16⟩ := st.val 16 _ _ rfl rfl (hd ⟨16, .data⟩ (by simp) rfl)
                obtain rfl : .pointer (some ⟨pb6, i * 4, none⟩) = u16 := V16.symm
                obtain ⟨u13, e13, V13⟩ := st.val 13 _ _ rfl rfl (hd ⟨13, .guard⟩ (by simp) rfl)
                obtain rfl : .bool false = u13 := V13.symm
                exact opTo_val (v := .pointer (some ⟨pb6, i * 4 + 1, none⟩)) (by simp [Region.wanted, yielded, e13]) (by simp [go_sem, Act.eval, e16]) ⟨(fun h => by cases h), rfl, wi⟩
              | 18, _ =>
                refine steps_of rfl ?_
                intro L aq wq hL hd st wi
                obtain ⟨u17, e17, V17⟩ := st.val 17 _ _ rfl rfl (hd ⟨17, .data⟩ (by simp) rfl)
                obtain rfl : .pointer (some ⟨pb6, i * 4 + 1, none⟩) = u17 := V17.symm
                obtain ⟨u13, e13, V13⟩ := st.val 13 _ _ rfl rfl (hd ⟨13, .guard⟩ (by simp) rfl)
                obtain rfl : .bool false = u13 := V13.symm
                exact opTo_val (v := .slice ca' cn' cc') (by simp [Region.wanted, yielded, e13]) (ex_load1 (ty := 34) rfl oneWritesL (eval_tmp e17) ((wi.cell (p := ⟨pb6, i * 4 + 1, none⟩) h6 trivial).trans q1)) ⟨(fun h => by cases h), rfl, wi⟩
              | 19, _ =>
                refine steps_of rfl ?_
                intro L aq wq hL hd st wi
                obtain ⟨u18, e18, V18⟩ := st.val 18 _ _ rfl rfl (hd ⟨18, .data⟩ (by simp) rfl)
                obtain rfl : .slice ca' cn' cc' = u18 := V18.symm
                obtain ⟨u13, e13, V13⟩ := st.val 13 _ _ rfl rfl (hd ⟨13, .guard⟩ (by simp) rfl)
                obtain rfl : .bool false = u13 := V13.symm
                exact opTo_val (v := .int .i64 (cn' : Int)) (by simp [Region.wanted, yielded, e13]) (by simp [go_sem, Act.eval, e18]) ⟨(fun h => by cases h), rfl, wi⟩
              | 20, _ =>
                refine steps_of rfl ?_
                intro L aq wq hL hd st wi
                have o10 := st.outside (t := 10) rfl (v := .int .i64 (cn : Int)) rfl
                obtain ⟨u13, e13, V13⟩ := st.val 13 _ _ rfl rfl (hd ⟨13, .guard⟩ (by simp) rfl)
                obtain rfl : .bool false = u13 := V13.symm
                exact opTo_val (v := .int .i64 (cn : Int)) (by simp [Region.wanted, yielded, e13]) (ex_move (.inl rfl) (eval_tmp o10)) ⟨(fun h => by cases h), rfl, wi⟩
              | 21, _ =>
                refine steps_of rfl ?_
                intro L aq wq hL hd st wi
                obtain ⟨u19, e19, V19⟩ := st.val 19 _ _ rfl rfl (hd ⟨19, .data⟩ (by simp) rfl)
                obtain rfl : .int .i64 (cn' : Int) = u19 := V19.symm
                obtain ⟨u20, e20, V20⟩ := st.val 20 _ _ rfl rfl (hd ⟨20, .data⟩ (by simp) rfl)
                obtain rfl : .int .i64 (cn : Int) = u20 := V20.symm
                obtain ⟨u13, e13, V13⟩ := st.val 13 _ _ rfl rfl (hd ⟨13, .guard⟩ (by simp) rfl)
                obtain rfl : .bool false = u13 := V13.symm
                exact opTo_val (v := .bool false) (by simp [Region.wanted, yielded, e13]) (by have := hcn; simp [go_sem, Act.eval, e19, e20] <;> omega) ⟨(fun h => by cases h), rfl, wi⟩
              | 22, _ =>
                refine steps_of rfl ?_
                intro L aq wq hL hd st wi
                obtain ⟨u13, e13, V13⟩ := st.val 13 _ _ rfl rfl (hd ⟨13, .data⟩ (by simp) rfl)
                obtain rfl : .bool false = u13 := V13.symm
                obtain ⟨u21, e21, V21⟩ := st.val 21 _ _ rfl rfl (hd ⟨21, .data⟩ (by simp) rfl)
                obtain rfl : .bool false = u21 := V21.symm
                exact opTo_val (v := .bool false) rfl (by simp [go_sem, Act.eval, e13, e21]) ⟨(fun h => by cases h), rfl, wi⟩
              | 23, _ =>
                refine steps_of rfl ?_
                intro L aq wq hL hd st wi
                obtain ⟨u22, e22, V22⟩ := st.val 22 _ _ rfl rfl (hd ⟨22, .data⟩ (by simp) rfl)
                obtain rfl : .bool false = u22 := V22.symm
                exact opTo_val (v := .bool false) rfl (ex_move (.inl rfl) (eval_tmp e22)) ⟨(fun h => by cases h), rfl, wi⟩
              | 24, _ =>
                refine steps_of rfl ?_
                intro L aq wq hL hd st wi
                have o9 := st.outside (t := 9) rfl (v := .int .i64 (i : Int)) rfl
                obtain ⟨u23, e23, V23⟩ := st.val 23 _ _ rfl rfl (hd ⟨23, .guard⟩ (by simp) rfl)
                obtain rfl : .bool false = u23 := V23.symm
                exact opTo_val (v := .int .i64 (i : Int)) (by simp [Region.wanted, yielded, e23]) (ex_move (.inl rfl) (eval_tmp o9)) ⟨(fun h => by cases h), rfl, wi⟩
              | 25, _ =>
                refine steps_of rfl ?_
                intro L aq wq hL hd st wi
                have o6 := st.outside (t := 6) rfl (v := .pointer (some ⟨pb6, 0, none⟩)) rfl
                obtain ⟨u23, e23, V23⟩ := st.val 23 _ _ rfl rfl (hd ⟨23, .guard⟩ (by simp) rfl)
                obtain rfl : .bool false = u23 := V23.symm
                exact opTo_val (v := .pointer (some ⟨pb6, 0, none⟩)) (by simp [Region.wanted, yielded, e23]) (by simp [go_sem, Act.eval, o6]) ⟨(fun h => by cases h), rfl, wi⟩
              | 26, _ =>
                refine steps_of rfl ?_
                intro L aq wq hL hd st wi
                obtain ⟨u25, e25, V25⟩ := st.val 25 _ _ rfl rfl (hd ⟨25, .data⟩ (by simp) rfl)
                obtain rfl : .pointer (some ⟨pb6, 0, none⟩) = u25 := V25.symm
                obtain ⟨u24, e24, V24⟩ := st.val 24 _ _ rfl rfl (hd ⟨24, .data⟩ (by simp) rfl)
                obtain rfl : .int .i64 (i : Int) = u24 := V24.symm
                obtain ⟨u23, e23, V23⟩ := st.val 23 _ _ rfl rfl (hd ⟨23, .guard⟩ (by simp) rfl)
                obtain rfl : .bool false = u23 := V23.symm
                exact opTo_val (v := .pointer (some ⟨pb6, i * 4, none⟩)) (by simp [Region.wanted, yielded, e23]) (by have := hi2; simp [go_sem, Act.eval, e24, e25]; omega) ⟨(fun h => by cases h), rfl, wi⟩
              | 27, _ =>
                refine steps_of rfl ?_
                intro L aq wq hL hd st wi
                obtain ⟨u26, e26, V26⟩ := st.val 26 _ _ rfl rfl (hd ⟨26, .data⟩ (by simp) rfl)
                obtain rfl : .pointer (some ⟨pb6, i * 4, none⟩) = u26 := V26.symm
                obtain ⟨u23, e23, V23⟩ := st.val 23 _ _ rfl rfl (hd ⟨23, .guard⟩ (by simp) rfl)
                obtain rfl : .bool false = u23 := V23.symm
                exact opTo_val (v := .pointer (some ⟨pb6, i * 4 + 2, none⟩)) (by simp [Region.wanted, yielded, e23]) (by simp [go_sem, Act.eval, e26]) ⟨(fun h => by cases h), rfl, wi⟩
              | 28, _ =>
                refine steps_of rfl ?_
                intro L aq wq hL hd st wi
                obtain ⟨u27, e27, V27⟩ := st.val 27 _ _ rfl rfl (hd ⟨27, .data⟩ (by simp) rfl)
                obtain rfl : .pointer (some ⟨pb6, i * 4 + 2, none⟩) = u27 := V27.symm
                obtain ⟨u23, e23, V23⟩ := st.val 23 _ _ rfl rfl (hd ⟨23, .guard⟩ (by simp) rfl)
                obtain rfl : .bool false = u23 := V23.symm
                exact opTo_val (v := .slice ba' bn bc') (by simp [Region.wanted, yielded, e23]) (ex_load1 (ty := 35) rfl oneIntsL (eval_tmp e27) ((wi.cell (p := ⟨pb6, i * 4 + 2, none⟩) h6 trivial).trans q2)) ⟨(fun h => by cases h), rfl, wi⟩
              | 29, _ =>
                refine steps_of rfl ?_
                intro L aq wq hL hd st wi
                obtain ⟨u28, e28, V28⟩ := st.val 28 _ _ rfl rfl (hd ⟨28, .data⟩ (by simp) rfl)
                obtain rfl : .slice ba' bn bc' = u28 := V28.symm
                obtain ⟨u23, e23, V23⟩ := st.val 23 _ _ rfl rfl (hd ⟨23, .guard⟩ (by simp) rfl)
                obtain rfl : .bool false = u23 := V23.symm
                exact opTo_val (v := .int .i64 (bn : Int)) (by simp [Region.wanted, yielded, e23]) (by simp [go_sem, Act.eval, e28]) ⟨(fun h => by cases h), rfl, wi⟩
              | 30, _ =>
                refine steps_of rfl ?_
                intro L aq wq hL hd st wi
                have o9 := st.outside (t := 9) rfl (v := .int .i64 (i : Int)) rfl
                obtain ⟨u23, e23, V23⟩ := st.val 23 _ _ rfl rfl (hd ⟨23, .guard⟩ (by simp) rfl)
                obtain rfl : .bool false = u23 := V23.symm
                exact opTo_val (v := .int .i64 (i : Int)) (by simp [Region.wanted, yielded, e23]) (ex_move (.inl rfl) (eval_tmp o9)) ⟨(fun h => by cases h), rfl, wi⟩
              | 31, _ =>
                refine steps_of rfl ?_
                intro L aq wq hL hd st wi
                have o2 := st.outside (t := 2) rfl (v := .pointer (some ⟨pb2, 0, none⟩)) rfl
                obtain ⟨u23, e23, V23⟩ := st.val 23 _ _ rfl rfl (hd ⟨23, .guard⟩ (by simp) rfl)
                obtain rfl : .bool false = u23 := V23.symm
                exact opTo_val (v := .pointer (some ⟨pb2, 0, none⟩)) (by simp [Region.wanted, yielded, e23]) (by simp [go_sem, Act.eval, o2]) ⟨(fun h => by cases h), rfl, wi⟩
              | 32, _ =>
                refine steps_of rfl ?_
                intro L aq wq hL hd st wi
                obtain ⟨u31, e31, V31⟩ := st.val 31 _ _ rfl rfl (hd ⟨31, .data⟩ (by simp) rfl)
                obtain rfl : .pointer (some ⟨pb2, 0, none⟩) = u31 := V31.symm
                obtain ⟨u30, e30, V30⟩ := st.val 30 _ _ rfl rfl (hd ⟨30, .data⟩ (by simp) rfl)
                obtain rfl : .int .i64 (i : Int) = u30 := V30.symm
                obtain ⟨u23, e23, V23⟩ := st.val 23 _ _ rfl rfl (hd ⟨23, .guard⟩ (by simp) rfl)
                obtain rfl : .bool false = u23 := V23.symm
                exact opTo_val (v := .pointer (some ⟨pb2, i * 4, none⟩)) (by simp [Region.wanted, yielded, e23]) (by have := hi2; simp [go_sem, Act.eval, e30, e31]; omega) ⟨(fun h => by cases h), rfl, wi⟩
              | 33, _ =>
                refine steps_of rfl ?_
                intro L aq wq hL hd st wi
                obtain ⟨u32, e32, V32⟩ := st.val 32 _ _ rfl rfl (hd ⟨32, .data⟩ (by simp) rfl)
                obtain rfl : .pointer (some ⟨pb2, i * 4, none⟩) = u32 := V32.symm
                obtain ⟨u23, e23, V23⟩ := st.val 23 _ _ rfl rfl (hd ⟨23, .guard⟩ (by simp) rfl)
                obtain rfl : .bool false = u23 := V23.symm
                exact opTo_val (v := .pointer (some ⟨pb2, i * 4 + 2, none⟩)) (by simp [Region.wanted, yielded, e23]) (by simp [go_sem, Act.eval, e32]) ⟨(fun h => by cases h), rfl, wi⟩
              | 34, _ =>
                refine steps_of rfl ?_
                intro L aq wq hL hd st wi
                obtain ⟨u33, e33, V33⟩ := st.val 33 _ _ rfl rfl (hd ⟨33, .data⟩ (by simp) rfl)
                obtain rfl : .pointer (some ⟨pb2, i * 4 + 2, none⟩) = u33 := V33.symm
                obtain ⟨u23, e23, V23⟩ := st.val 23 _ _ rfl rfl (hd ⟨23, .guard⟩ (by simp) rfl)
                obtain rfl : .bool false = u23 := V23.symm
                exact opTo_val (v := .slice ba bn bc) (by simp [Region.wanted, yielded, e23]) (ex_load1 (ty := 35) rfl oneIntsL (eval_tmp e33) ((wi.cell (p := ⟨pb2, i * 4 + 2, none⟩) h2 trivial).trans g2)) ⟨(fun h => by cases h), rfl, wi⟩
              | 35, _ =>
                refine steps_of rfl ?_
                intro L aq wq hL hd st wi
                obtain ⟨u34, e34, V34⟩ := st.val 34 _ _ rfl rfl (hd ⟨34, .data⟩ (by simp) rfl)
                obtain rfl : .slice ba bn bc = u34 := V34.symm
                obtain ⟨u23, e23, V23⟩ := st.val 23 _ _ rfl rfl (hd ⟨23, .guard⟩ (by simp) rfl)
                obtain rfl : .bool false = u23 := V23.symm
                exact opTo_val (v := .int .i64 (bn : Int)) (by simp [Region.wanted, yielded, e23]) (by simp [go_sem, Act.eval, e34]) ⟨(fun h => by cases h), rfl, wi⟩
              | 36, _ =>
                refine steps_of rfl ?_
                intro L aq wq hL hd st wi
                obtain ⟨u29, e29, V29⟩ := st.val 29 _ _ rfl rfl (hd ⟨29, .data⟩ (by simp) rfl)
                obtain rfl : .int .i64 (bn : Int) = u29 := V29.symm
                obtain ⟨u35, e35, V35⟩ := st.val 35 _ _ rfl rfl (hd ⟨35, .data⟩ (by simp) rfl)
                obtain rfl : .int .i64 (bn : Int) = u35 := V35.symm
                obtain ⟨u23, e23, V23⟩ := st.val 23 _ _ rfl rfl (hd ⟨23, .guard⟩ (by simp) rfl)
                obtain rfl : .bool false = u23 := V23.symm
                exact opTo_val (v := .bool false) (by simp [Region.wanted, yielded, e23]) (by simp [go_sem, Act.eval, e29, e35]) ⟨(fun h => by cases h), rfl, wi⟩
              | 37, _ =>
                refine steps_of rfl ?_
                intro L aq wq hL hd st wi
                obtain ⟨u23, e23, V23⟩ := st.val 23 _ _ rfl rfl (hd ⟨23, .data⟩ (by simp) rfl)
                obtain rfl : .bool false = u23 := V23.symm
                obtain ⟨u36, e36, V36⟩ := st.val 36 _ _ rfl rfl (hd ⟨36, .data⟩ (by simp) rfl)
                obtain rfl : .bool false = u36 := V36.symm
                exact opTo_val (v := .bool false) rfl (by simp [go_sem, Act.eval, e23, e36]) ⟨(fun h => by cases h), rfl, wi⟩
              | 38, _ =>
                refine steps_of rfl ?_
                intro L aq wq hL hd st wi
                obtain ⟨u37, e37, V37⟩ := st.val 37 _ _ rfl rfl (hd ⟨37, .data⟩ (by simp) rfl)
                obtain rfl : .bool false = u37 := V37.symm
                exact opTo_val (v := .bool false) rfl (ex_move (.inl rfl) (eval_tmp e37)) ⟨(fun h => by cases h), rfl, wi⟩
              | 39, _ =>
                refine steps_of rfl ?_
                intro L aq wq hL hd st wi
                have o9 := st.outside (t := 9) rfl (v := .int .i64 (i : Int)) rfl
                obtain ⟨u38, e38, V38⟩ := st.val 38 _ _ rfl rfl (hd ⟨38, .guard⟩ (by simp) rfl)
                obtain rfl : .bool false = u38 := V38.symm
                exact opTo_val (v := .int .i64 (i : Int)) (by simp [Region.wanted, yielded, e38]) (ex_move (.inl rfl) (eval_tmp o9)) ⟨(fun h => by cases h), rfl, wi⟩
              | 40, _ =>
                refine steps_of rfl ?_
                intro L aq wq hL hd st wi
                have o6 := st.outside (t := 6) rfl (v := .pointer (some ⟨pb6, 0, none⟩)) rfl
                obtain ⟨u38, e38, V38⟩ := st.val 38 _ _ rfl rfl (hd ⟨38, .guard⟩ (by simp) rfl)
                obtain rfl : .bool false = u38 := V38.symm
                exact opTo_val (v := .pointer (some ⟨pb6, 0, none⟩)) (by simp [Region.wanted, yielded, e38]) (by simp [go_sem, Act.eval, o6]) ⟨(fun h => by cases h), rfl, wi⟩
              | 41, _ =>
                refine steps_of rfl ?_
                intro L aq wq hL hd st wi
                obtain ⟨u40, e40, V40⟩ := st.val 40 _ _ rfl rfl (hd ⟨40, .data⟩ (by simp) rfl)
                obtain rfl : .pointer (some ⟨pb6, 0, none⟩) = u40 := V40.symm
                obtain ⟨u39, e39, V39⟩ := st.val 39 _ _ rfl rfl (hd ⟨39, .data⟩ (by simp) rfl)
                obtain rfl : .int .i64 (i : Int) = u39 := V39.symm
                obtain ⟨u38, e38, V38⟩ := st.val 38 _ _ rfl rfl (hd ⟨38, .guard⟩ (by simp) rfl)
                obtain rfl : .bool false = u38 := V38.symm
                exact opTo_val (v := .pointer (some ⟨pb6, i * 4, none⟩)) (by simp [Region.wanted, yielded, e38]) (by have := hi2; simp [go_sem, Act.eval, e39, e40]; omega) ⟨(fun h => by cases h), rfl, wi⟩
              | 42, _ =>
                refine steps_of rfl ?_
                intro L aq wq hL hd st wi
                obtain ⟨u41, e41, V41⟩ := st.val 41 _ _ rfl rfl (hd ⟨41, .data⟩ (by simp) rfl)
                obtain rfl : .pointer (some ⟨pb6, i * 4, none⟩) = u41 := V41.symm
                obtain ⟨u38, e38, V38⟩ := st.val 38 _ _ rfl rfl (hd ⟨38, .guard⟩ (by simp) rfl)
                obtain rfl : .bool false = u38 := V38.symm
                exact opTo_val (v := .pointer (some ⟨pb6, i * 4 + 3, none⟩)) (by simp [Region.wanted, yielded, e38]) (by simp [go_sem, Act.eval, e41]) ⟨(fun h => by cases h), rfl, wi⟩
              | 43, _ =>
                refine steps_of rfl ?_
                intro L aq wq hL hd st wi
                obtain ⟨u42, e42, V42⟩ := st.val 42 _ _ rfl rfl (hd ⟨42, .data⟩ (by simp) rfl)
                obtain rfl : .pointer (some ⟨pb6, i * 4 + 3, none⟩) = u42 := V42.symm
                obtain ⟨u38, e38, V38⟩ := st.val 38 _ _ rfl rfl (hd ⟨38, .guard⟩ (by simp) rfl)
                obtain rfl : .bool false = u38 := V38.symm
                exact opTo_val (v := .bool off) (by simp [Region.wanted, yielded, e38]) (ex_load1 (ty := 4) rfl oneBool (eval_tmp e42) ((wi.cell (p := ⟨pb6, i * 4 + 3, none⟩) h6 trivial).trans q3)) ⟨(fun h => by cases h), rfl, wi⟩
              | 44, _ =>
                refine steps_of rfl ?_
                intro L aq wq hL hd st wi
                have o9 := st.outside (t := 9) rfl (v := .int .i64 (i : Int)) rfl
                obtain ⟨u38, e38, V38⟩ := st.val 38 _ _ rfl rfl (hd ⟨38, .guard⟩ (by simp) rfl)
                obtain rfl : .bool false = u38 := V38.symm
                exact opTo_val (v := .int .i64 (i : Int)) (by simp [Region.wanted, yielded, e38]) (ex_move (.inl rfl) (eval_tmp o9)) ⟨(fun h => by cases h), rfl, wi⟩
              | 45, _ =>
                refine steps_of rfl ?_
                intro L aq wq hL hd st wi
                have o2 := st.outside (t := 2) rfl (v := .pointer (some ⟨pb2, 0, none⟩)) rfl
                obtain ⟨u38, e38, V38⟩ := st.val 38 _ _ rfl rfl (hd ⟨38, .guard⟩ (by simp) rfl)
                obtain rfl : .bool false = u38 := V38.symm
                exact opTo_val (v := .pointer (some ⟨pb2, 0, none⟩)) (by simp [Region.wanted, yielded, e38]) (by simp [go_sem, Act.eval, o2]) ⟨(fun h => by cases h), rfl, wi⟩
              | 46, _ =>
                refine steps_of rfl ?_
                intro L aq wq hL hd st wi
                obtain ⟨u45, e45, V45⟩ := st.val 45 _ _ rfl rfl (hd ⟨45, .data⟩ (by simp) rfl)
                obtain rfl : .pointer (some ⟨pb2, 0, none⟩) = u45 := V45.symm
                obtain ⟨u44, e44, V44⟩ := st.val 44 _ _ rfl rfl (hd ⟨44, .data⟩ (by simp) rfl)
                obtain rfl : .int .i64 (i : Int) = u44 := V44.symm
                obtain ⟨u38, e38, V38⟩ := st.val 38 _ _ rfl rfl (hd ⟨38, .guard⟩ (by simp) rfl)
                obtain rfl : .bool false = u38 := V38.symm
                exact opTo_val (v := .pointer (some ⟨pb2, i * 4, none⟩)) (by simp [Region.wanted, yielded, e38]) (by have := hi2; simp [go_sem, Act.eval, e44, e45]; omega) ⟨(fun h => by cases h), rfl, wi⟩
              | 47, _ =>
                refine steps_of rfl ?_
                intro L aq wq hL hd st wi
                obtain ⟨u46, e46, V46⟩ := st.val 46 _ _ rfl rfl (hd ⟨46, .data⟩ (by simp) rfl)
                obtain rfl : .pointer (some ⟨pb2, i * 4, none⟩) = u46 := V46.symm
                obtain ⟨u38, e38, V38⟩ := st.val 38 _ _ rfl rfl (hd ⟨38, .guard⟩ (by simp) rfl)
                obtain rfl : .bool false = u38 := V38.symm
                exact opTo_val (v := .pointer (some ⟨pb2, i * 4 + 3, none⟩)) (by simp [Region.wanted, yielded, e38]) (by simp [go_sem, Act.eval, e46]) ⟨(fun h => by cases h), rfl, wi⟩
              | 48, _ =>
                refine steps_of rfl ?_
                intro L aq wq hL hd st wi
                obtain ⟨u47, e47, V47⟩ := st.val 47 _ _ rfl rfl (hd ⟨47, .data⟩ (by simp) rfl)
                obtain rfl : .pointer (some ⟨pb2, i * 4 + 3, none⟩) = u47 := V47.symm
                obtain ⟨u38, e38, V38⟩ := st.val 38 _ _ rfl rfl (hd ⟨38, .guard⟩ (by simp) rfl)
                obtain rfl : .bool false = u38 := V38.symm
                exact opTo_val (v := .bool off) (by simp [Region.wanted, yielded, e38]) (ex_load1 (ty := 4) rfl oneBool (eval_tmp e47) ((wi.cell (p := ⟨pb2, i * 4 + 3, none⟩) h2 trivial).trans g3)) ⟨(fun h => by cases h), rfl, wi⟩
              | 49, _ =>
                refine steps_of rfl ?_
                intro L aq wq hL hd st wi
                obtain ⟨u43, e43, V43⟩ := st.val 43 _ _ rfl rfl (hd ⟨43, .data⟩ (by simp) rfl)
                obtain rfl : .bool off = u43 := V43.symm
                obtain ⟨u48, e48, V48⟩ := st.val 48 _ _ rfl rfl (hd ⟨48, .data⟩ (by simp) rfl)
                obtain rfl : .bool off = u48 := V48.symm
                obtain ⟨u38, e38, V38⟩ := st.val 38 _ _ rfl rfl (hd ⟨38, .guard⟩ (by simp) rfl)
                obtain rfl : .bool false = u38 := V38.symm
                exact opTo_val (v := .bool false) (by simp [Region.wanted, yielded, e38]) (by simp [go_sem, Act.eval, e43, e48]) ⟨(fun h => by cases h), rfl, wi⟩
              | 50, _ =>
                refine steps_of rfl ?_
                intro L aq wq hL hd st wi
                obtain ⟨u38, e38, V38⟩ := st.val 38 _ _ rfl rfl (hd ⟨38, .data⟩ (by simp) rfl)
                obtain rfl : .bool false = u38 := V38.symm
                obtain ⟨u49, e49, V49⟩ := st.val 49 _ _ rfl rfl (hd ⟨49, .data⟩ (by simp) rfl)
                obtain rfl : .bool false = u49 := V49.symm
                exact opTo_val (v := .bool false) rfl (by simp [go_sem, Act.eval, e38, e49]) ⟨(fun h => by cases h), rfl, wi⟩
              | (m + 51), h => omega
            case hend12 =>
              intro vals w12 hV hW12
              have x50 : vals 50 = .bool false := hV 50 _ _ rfl rfl
              simp only [putAll, Act.put, List.setIfInBounds_toArray, List.set_cons_succ, List.set_cons_zero, x50]
              have HX := Lib.hid (HG0.out.trans hW12)
              clear hV hW12 x50 hW0 HG0 g0 g1 g2 g3 q0 q1 q2 q3 h2 h6
              go_wp2_with fail
              go_loopw [11] (fun jj wr => ∃ k : Nat, k ≤ pn ∧ jj = .int .i64 k ∧ RowKit.Hid (Agrees All W5 wr)) (fun jj _ => pn - (intOf jj).toNat)
              case atStart => exact ⟨0, by omega, rfl, HX⟩
              case round =>
                obtain ⟨k, hk, rfl, HY⟩ := hrel
                obtain ⟨g0, g1, g2, g3, q0, q1, q2, q3, h2, h6⟩ := HCL.out _ HY.out
                dsimp only at g0 g1 g2 g3 q0 q1 q2 q3
                by_cases hlt : k < pn
                · obtain ⟨p, hp⟩ : ∃ p, D.pages[k]? = some p := ⟨_, List.getElem?_eq_getElem (by rw [HDA.out.pn]; exact hlt)⟩
                  obtain ⟨W0, hW0⟩ : ∃ W0, wr.drew = W0 := ⟨_, rfl⟩
                  have HG0 : RowKit.Hid (Agrees All W5 W0) := by rw [← hW0]; exact Lib.hid HY.out.drew
                  have HGw := Lib.hid (HA5.out.trans HG0.out)
                  have HM := Lib.hid (List.mem_of_getElem? hp)
                  obtain ⟨b, off, rfl, _, hb0, hc0'⟩ := CellsAt.elem (f := pageL) (HDA.out.pages.agrees HGw.out fun _ h => h) (fun y hy => by rw [pageL_length]; exact HDA.out.ok.page y hy) (by omega) hp
                  obtain ⟨b', off', rfl, _, hb1, hc1'⟩ := CellsAt.elem (f := pageL) (HOA.out.pages.agrees HG0.out fun _ h => h) (fun y hy => by rw [pageL_length]; exact HOA.out.ok.page y hy) (by omega) (show O.pages[k]? = some p by rw [HDW.out.pages]; exact hp)
                  have HC0 := Lib.hid hc0'
                  have HC1 := Lib.hid hc1'
                  have HB0 := Lib.hid hb0
                  have HB1 := Lib.hid hb1
                  clear hc0' hc1' hb0 hb1 hp
                  go_wp2_with fail
                  clear g0 g1 g2 g3 q0 q1 q2 q3 h2 h6
                  obtain ⟨g0, g1, g2, g3, q0, q1, q2, q3, h2, h6⟩ := HCL.out W0 HG0.out
                  dsimp only at g0 g1 g2 g3 q0 q1 q2 q3
                  have hb0 := HB0.out
                  have hb1 := HB1.out
                  have hc0 := fun j hj => (HC0.out j hj).trans (pageL_get p j)
                  have hc1 := fun j hj => (HC1.out j hj).trans (pageL_get p j)
                  have hsz : (pageCells p).size = 256 := by rw [pageCells_size]; exact HDA.out.ok.page p HM.out
                  have hkd := keyed_page p (HDA.out.ok.page p HM.out)
                  refine wp_region_plan (by kernel_rfl) ?hok17 (by kernel_rfl) (vFw17 w.heap.size (a + 1) i k pn pc pc' b off b' off' p) (fun _ _ W => Agrees All W0 W) ?h017 (fun m hm => ?steps17) ?hend17
                  case hok17 => kernel_rfl
                  case h017 => exact fun vals => by rw [hW0]; exact Agrees.refl _ _
                  case steps17 =>
                    generalize w.heap.size = pb2 at *
                    generalize a + 1 = pb6 at *
                    have hm' : m < 17 := hm
                    match m, hm' with
                    | 0, _ =>
                      refine steps_of rfl ?_
                      intro L aq wq hL hd st wi
                      have o9 := st.outside (t := 9) rfl (v := .int .i64 (i : Int)) rfl
                      exact opTo_val (v := .int .i64 (i : Int)) rfl (ex_move (.inl rfl) (eval_tmp o9)) ⟨(fun h => by cases h), rfl, wi⟩
                    | 1, _ =>
                      refine steps_of rfl ?_
                      intro L aq wq hL hd st wi
                      have o6 := st.outside (t := 6) rfl (v := .pointer (some ⟨pb6, 0, none⟩)) rfl
                      exact opTo_val (v := .pointer (some ⟨pb6, 0, none⟩)) rfl (by simp [go_sem, Act.eval, o6]) ⟨(fun h => by cases h), rfl, wi⟩
                    | 2, _ =>
                      refine steps_of rfl ?_
                      intro L aq wq hL hd st wi
                      obtain ⟨u1, e1, V1⟩ := st.val 1 _ _ rfl rfl (hd ⟨1, .data⟩ (by simp) rfl)
                      obtain rfl : .pointer (some ⟨pb6, 0, none⟩) = u1 := V1.symm
                      obtain ⟨u0, e0, V0⟩ := st.val 0 _ _ rfl rfl (hd ⟨0, .data⟩ (by simp) rfl)
                      obtain rfl : .int .i64 (i : Int) = u0 := V0.symm
                      exact opTo_val (v := .pointer (some ⟨pb6, i * 4, none⟩)) rfl (by have := hi2; simp [go_sem, Act.eval, e0, e1]; omega) ⟨(fun h => by cases h), rfl, wi⟩
                    | 3, _ =>
                      refine steps_of rfl ?_
                      intro L aq wq hL hd st wi
                      obtain ⟨u2, e2, V2⟩ := st.val 2 _ _ rfl rfl (hd ⟨2, .data⟩ (by simp) rfl)
                      obtain rfl : .pointer (some ⟨pb6, i * 4, none⟩) = u2 := V2.symm
                      exact opTo_val (v := .pointer (some ⟨pb6, i * 4, none⟩)) rfl (by simp [go_sem, Act.eval, e2]) ⟨(fun h => by cases h), rfl, wi⟩
                    | 4, _ =>
                      refine steps_of rfl ?_
                      intro L aq wq hL hd st wi
                      obtain ⟨u3, e3, V3⟩ := st.val 3 _ _ rfl rfl (hd ⟨3, .data⟩ (by simp) rfl)
                      obtain rfl : .pointer (some ⟨pb6, i * 4, none⟩) = u3 := V3.symm
                      exact opTo_val (v := .slice (some ⟨b', off', none⟩) pn pc') rfl (ex_load1 (ty := 33) rfl onePagesL (eval_tmp e3) ((wi.cell (p := ⟨pb6, i * 4, none⟩) h6 trivial).trans q0)) ⟨(fun h => by cases h), rfl, wi⟩
                    | 5, _ =>
                      refine steps_of rfl ?_
                      intro L aq wq hL hd st wi
                      have o11 := st.outside (t := 11) rfl (v := .int .i64 (k : Int)) rfl
                      exact opTo_val (v := .int .i64 (k : Int)) rfl (ex_move (.inl rfl) (eval_tmp o11)) ⟨(fun h => by cases h), rfl, wi⟩
                    | 6, _ =>
                      refine steps_of rfl ?_
                      intro L aq wq hL hd st wi
                      obtain ⟨u4, e4, V4⟩ := st.val 4 _ _ rfl rfl (hd ⟨4, .data⟩ (by simp) rfl)
                      obtain rfl : .slice (some ⟨b', off', none⟩) pn pc' = u4 := V4.symm
                      obtain ⟨u5, e5, V5⟩ := st.val 5 _ _ rfl rfl (hd ⟨5, .data⟩ (by simp) rfl)
                      obtain rfl : .int .i64 (k : Int) = u5 := V5.symm
                      exact opTo_val (v := .pointer (some ⟨b', off' + k * 256, none⟩)) rfl (ex_idx rfl Try.underlying33 isAgg_page.2 b' off' pn pc' k (eval_tmp e4) (eval_tmp e5) hlt) ⟨(fun h => by cases h), rfl, wi⟩
                    | 7, _ =>
                      refine steps_of rfl ?_
                      intro L aq wq hL hd st wi
                      obtain ⟨u6, e6, V6⟩ := st.val 6 _ _ rfl rfl (hd ⟨6, .data⟩ (by simp) rfl)
                      obtain rfl : .pointer (some ⟨b', off' + k * 256, none⟩) = u6 := V6.symm
                      exact opTo_val (v := .agg (pageCells p)) rfl (ex_load rfl isAgg_page b' (off' + k * 256) (eval_tmp e6) (pageCells p) hsz (fun j hj => (wi.cell (p := ⟨b', off' + k * 256 + j, none⟩) hb1 trivial).trans (hc1 j hj))) ⟨(fun h => by cases h), rfl, wi⟩
                    | 8, _ =>
                      refine steps_of rfl ?_
                      intro L aq wq hL hd st wi
                      have o9 := st.outside (t := 9) rfl (v := .int .i64 (i : Int)) rfl
                      exact opTo_val (v := .int .i64 (i : Int)) rfl (ex_move (.inl rfl) (eval_tmp o9)) ⟨(fun h => by cases h), rfl, wi⟩
                    | 9, _ =>
                      refine steps_of rfl ?_
                      intro L aq wq hL hd st wi
                      have o2 := st.outside (t := 2) rfl (v := .pointer (some ⟨pb2, 0, none⟩)) rfl
                      exact opTo_val (v := .pointer (some ⟨pb2, 0, none⟩)) rfl (by simp [go_sem, Act.eval, o2]) ⟨(fun h => by cases h), rfl, wi⟩
                    | 10, _ =>
                      refine steps_of rfl ?_
                      intro L aq wq hL hd st wi
                      obtain ⟨u9, e9, V9⟩ := st.val 9 _ _ rfl rfl (hd ⟨9, .data⟩ (by simp) rfl)
                      obtain rfl : .pointer (some ⟨pb2, 0, none⟩) = u9 := V9.symm
                      obtain ⟨u8, e8, V8⟩ := st.val 8 _ _ rfl rfl (hd ⟨8, .data⟩ (by simp) rfl)
                      obtain rfl : .int .i64 (i : Int) = u8 := V8.symm
                      exact opTo_val (v := .pointer (some ⟨pb2, i * 4, none⟩)) rfl (by have := hi2; simp [go_sem, Act.eval, e8, e9]; omega) ⟨(fun h => by cases h), rfl, wi⟩
                    | 11, _ =>
                      refine steps_of rfl ?_
                      intro L aq wq hL hd st wi
                      obtain ⟨u10, e10, V10⟩ := st.val 10 _ _ rfl rfl (hd ⟨10, .data⟩ (by simp) rfl)
                      obtain rfl : .pointer (some ⟨pb2, i * 4, none⟩) = u10 := V10.symm
                      exact opTo_val (v := .pointer (some ⟨pb2, i * 4, none⟩)) rfl (by simp [go_sem, Act.eval, e10]) ⟨(fun h => by cases h), rfl, wi⟩
                    | 12, _ =>
                      refine steps_of rfl ?_
                      intro L aq wq hL hd st wi
                      obtain ⟨u11, e11, V11⟩ := st.val 11 _ _ rfl rfl (hd ⟨11, .data⟩ (by simp) rfl)
                      obtain rfl : .pointer (some ⟨pb2, i * 4, none⟩) = u11 := V11.symm
                      exact opTo_val (v := .slice (some ⟨b, off, none⟩) pn pc) rfl (ex_load1 (ty := 33) rfl onePagesL (eval_tmp e11) ((wi.cell (p := ⟨pb2, i * 4, none⟩) h2 trivial).trans g0)) ⟨(fun h => by cases h), rfl, wi⟩
                    | 13, _ =>
                      refine steps_of rfl ?_
                      intro L aq wq hL hd st wi
                      have o11 := st.outside (t := 11) rfl (v := .int .i64 (k : Int)) rfl
                      exact opTo_val (v := .int .i64 (k : Int)) rfl (ex_move (.inl rfl) (eval_tmp o11)) ⟨(fun h => by cases h), rfl, wi⟩
                    | 14, _ =>
                      refine steps_of rfl ?_
                      intro L aq wq hL hd st wi
                      obtain ⟨u12, e12, V12⟩ := st.val 12 _ _ rfl rfl (hd ⟨12, .data⟩ (by simp) rfl)
                      obtain rfl : .slice (some ⟨b, off, none⟩) pn pc = u12 := V12.symm
                      obtain ⟨u13, e13, V13⟩ := st.val 13 _ _ rfl rfl (hd ⟨13, .data⟩ (by simp) rfl)
                      obtain rfl : .int .i64 (k : Int) = u13 := V13.symm
                      exact opTo_val (v := .pointer (some ⟨b, off + k * 256, none⟩)) rfl (ex_idx rfl Try.underlying33 isAgg_page.2 b off pn pc k (eval_tmp e12) (eval_tmp e13) hlt) ⟨(fun h => by cases h), rfl, wi⟩
                    | 15, _ =>
                      refine steps_of rfl ?_
                      intro L aq wq hL hd st wi
                      obtain ⟨u14, e14, V14⟩ := st.val 14 _ _ rfl rfl (hd ⟨14, .data⟩ (by simp) rfl)
                      obtain rfl : .pointer (some ⟨b, off + k * 256, none⟩) = u14 := V14.symm
                      exact opTo_val (v := .agg (pageCells p)) rfl (ex_load rfl isAgg_page b (off + k * 256) (eval_tmp e14) (pageCells p) hsz (fun j hj => (wi.cell (p := ⟨b, off + k * 256 + j, none⟩) hb0 trivial).trans (hc0 j hj))) ⟨(fun h => by cases h), rfl, wi⟩
                    | 16, _ =>
                      refine steps_of rfl ?_
                      intro L aq wq hL hd st wi
                      obtain ⟨u7, e7, V7⟩ := st.val 7 _ _ rfl rfl (hd ⟨7, .data⟩ (by simp) rfl)
                      obtain rfl : .agg (pageCells p) = u7 := V7.symm
                      obtain ⟨u15, e15, V15⟩ := st.val 15 _ _ rfl rfl (hd ⟨15, .data⟩ (by simp) rfl)
                      obtain rfl : .agg (pageCells p) = u15 := V15.symm
                      refine opTo_neq keyable_page hkd hkd rfl rfl (eval_tmp e7) (eval_tmp e15) (fun r hr => ⟨(fun h => by cases h), ?_, wi⟩)
                      obtain rfl := hr.2 rfl
                      rfl
                    | (m + 17), h => omega
                  case hend17 =>
                    intro vals w17 hV hW17
                    have x16 : vals 16 = .bool false := hV 16 _ _ rfl rfl
                    simp only [putAll, Act.put, List.setIfInBounds_toArray, List.set_cons_succ, List.set_cons_zero, x16]
                    have HZ := Lib.hid (HG0.out.trans hW17)
                    clear hV hW17 x16 hW0 HG0 g0 g1 g2 g3 q0 q1 q2 q3 h2 h6 hb0 hb1 hc0 hc1 hsz hkd HC0 HC1 HB0 HB1
                    go_wp2_with fail
                    exact ⟨⟨k + 1, by omega, by simp, HZ⟩, by simp [intOf]; omega⟩
                · obtain rfl : k = pn := by omega
                  go_wp2_with fail
                  clear g0 g1 g2 g3 q0 q1 q2 q3 h2 h6
                  go_loopw [12] (fun jj wr => ∃ k : Nat, k ≤ cn' ∧ jj = .int .i64 k ∧ RowKit.Hid (Agrees All W5 wr)) (fun jj _ => cn' - (intOf jj).toNat)
                  case atStart => exact ⟨0, by omega, rfl, HY⟩
                  case round =>
                    obtain ⟨k, hk, rfl, HY⟩ := hrel
                    obtain ⟨g0, g1, g2, g3, q0, q1, q2, q3, h2, h6⟩ := HCL.out _ HY.out
                    dsimp only at g0 g1 g2 g3 q0 q1 q2 q3
                    by_cases hlt : k < cn'
                    · obtain ⟨y, hy⟩ : ∃ y, O.cache[k]? = some y := ⟨_, List.getElem?_eq_getElem (by rw [HOA.out.cn]; exact hlt)⟩
                      have HOK := Lib.hid (HOA.out.ok.wr y (List.mem_of_getElem? hy))
                      have HYY := Lib.hid hy
                      obtain ⟨b', off', rfl, _, hb1, hc1'⟩ := CellsAt.elem (f := wrL) (HOA.out.cache.agrees HY.out fun _ h => h) (fun y hy => by rw [wrL_length, (HOA.out.ok.wr y hy).2]) (by omega) hy
                      have HC1 := Lib.hid hc1'
                      have HSZ : RowKit.Hid ((wrCells y).size = 257) := Lib.hid (wrCells_size y HOK.out.2)
                      obtain ⟨Y1, Y2, hY1, hY2, hz, hr, hgY⟩ := box_new wr zeroWr (wrCells y) 75
                      obtain ⟨W0, hW0⟩ : ∃ W0, Y2.drew = W0 := ⟨_, rfl⟩
                      have HG0 : RowKit.Hid (Agrees All W5 W0) := by rw [← hW0]; exact Lib.hid (HY.out.trans hgY).drew
                      have HRW := Lib.hid (show W0.heap[wr.heap.size]? = some (.cells (wrCells y) 75 (0, 0)) by rw [← hW0]; exact (((Agrees.refl All Y2).drew).block _ (Array.getElem?_eq_some_iff.1 hr).1 trivial).trans hr)
                      have HZW := Lib.hid hz
                      clear hz hr hgY hb1 hc1' hy
                      go_wp2_with (first
                        | (refine wpList_val rfl (ex_load (ty := 75) rfl isAgg_write b' (off' + k * 257) rfl (wrCells y) HSZ.out (fun j hj => (HC1.out j hj).trans (wrCells_get y j).symm)) ?_)
                        | (refine wpList_val rfl (ex_alloc rfl (.agg zeroWr) zero_write) ?_; rw [show (Value.agg zeroWr).cells = zeroWr from rfl, hY1])
                        | (refine wpList_unit rfl (ex_storeAll (ty := 75) rfl isAgg_write.2 wr.heap.size rfl (wrCells y) zeroWr rfl HSZ.out HZW.out zeroWr_size (wrCells_one y)) ?_; rw [hY2]))
                      clear g0 g1 g2 g3 q0 q1 q2 q3 h2 h6 HC1 HZW hY1 hY2
                      have hwl : wr.heap.size < W0.heap.size := (Array.getElem?_eq_some_iff.1 HRW.out).1
                      by_cases hkn : k < cn
                      · have hyd : D.cache[k]? = some y := by
                          obtain ⟨l, hl, _⟩ := HDW.out.cache
                          have h1 := HYY.out
                          rw [hl, List.getElem?_append_left (by rw [HDA.out.cn]; exact hkn)] at h1
                          exact h1
                        obtain ⟨b, off, rfl, _, hb0, hc0'⟩ := CellsAt.elem (f := wrL) (HDA.out.cache.agrees (HA5.out.trans HG0.out) fun _ h => h) (fun y hy => by rw [wrL_length, (HDA.out.ok.wr y hy).2]) (by omega) hyd
                        obtain ⟨g0, g1, g2, g3, q0, q1, q2, q3, h2, h6⟩ := HCL.out W0 HG0.out
                        dsimp only at g0 g1 g2 g3 q0 q1 q2 q3
                        have hc0 := fun j hj => (hc0' j hj).trans (wrCells_get y j).symm
                        have hwc : ∀ j, j < 257 → W0.cell? ⟨wr.heap.size, 0 + j, none⟩ = (wrCells y)[j]? := fun j _ => by rw [Nat.zero_add]; exact cell_of_row _ _ _ _ _ _ HRW.out
                        have hsz := HSZ.out
                        have hkd := keyed_write y HOK.out.1 HOK.out.2
                        refine wp_region_plan (by kernel_rfl) ?hok23a (by kernel_rfl) (vFw23a w.heap.size i k cn cc b off y) (fun _ _ W => Agrees All W0 W) ?h023a (fun m hm => ?steps23a) ?hend23a
                        case hok23a => kernel_rfl
                        case h023a => exact fun vals => by rw [hW0]; exact Agrees.refl _ _
                        case steps23a =>
                          generalize w.heap.size = pb2 at *
                          generalize wr.heap.size = wb at *
                          have hm' : m < 27 := hm
                          match m, hm' with
                          | 0, _ =>
                            refine steps_of rfl ?_
                            intro L aq wq hL hd st wi
                            have o12 := st.outside (t := 12) rfl (v := .int .i64 (k : Int)) rfl
                            exact opTo_val (v := .int .i64 (k : Int)) rfl (ex_move (.inl rfl) (eval_tmp o12)) ⟨(fun h => by cases h), rfl, wi⟩
                          | 1, _ =>
                            refine steps_of rfl ?_
                            intro L aq wq hL hd st wi
                            have o10 := st.outside (t := 10) rfl (v := .int .i64 (cn : Int)) rfl
                            exact opTo_val (v := .int .i64 (cn : Int)) rfl (ex_move (.inl rfl) (eval_tmp o10)) ⟨(fun h => by cases h), rfl, wi⟩
                          | 2, _ =>
                            refine steps_of rfl ?_
                            intro L aq wq hL hd st wi
                            obtain ⟨u0, e0, V0⟩ := st.val 0 _ _ rfl rfl (hd ⟨0, .data⟩ (by simp) rfl)
                            obtain rfl : .int .i64 (k : Int) = u0 := V0.symm
                            obtain ⟨u1, e1, V1⟩ := st.val 1 _ _ rfl rfl (hd ⟨1, .data⟩ (by simp) rfl)
                            obtain rfl : .int .i64 (cn : Int) = u1 := V1.symm
                            exact opTo_val (v := .bool true) rfl (by have := hkn; simp [go_sem, Act.eval, e0, e1] <;> omega) ⟨(fun h => by cases h), rfl, wi⟩
                          | 3, _ =>
                            refine steps_of rfl ?_
                            intro L aq wq hL hd st wi
                            obtain ⟨u2, e2, V2⟩ := st.val 2 _ _ rfl rfl (hd ⟨2, .data⟩ (by simp) rfl)
                            obtain rfl : .bool true = u2 := V2.symm
                            exact opTo_val (v := .bool true) rfl (ex_move (.inl rfl) (eval_tmp e2)) ⟨(fun h => by cases h), rfl, wi⟩
                          | 4, _ =>
                            refine steps_of rfl ?_
                            intro L aq wq hL hd st wi
                            have o13 := st.outside (t := 13) rfl (v := .pointer (some ⟨wb, 0, none⟩)) rfl
                            obtain ⟨u3, e3, V3⟩ := st.val 3 _ _ rfl rfl (hd ⟨3, .guard⟩ (by simp) rfl)
                            obtain rfl : .bool true = u3 := V3.symm
                            exact opTo_val (v := .agg (wrCells y)) (by simp [Region.wanted, yielded, e3]) (ex_load rfl isAgg_write wb 0 (eval_tmp o13) (wrCells y) hsz (fun j hj => (wi.cell (p := ⟨wb, 0 + j, none⟩) hwl trivial).trans (hwc j hj))) ⟨(fun h => by cases h), rfl, wi⟩
                          | 5, _ =>
                            refine steps_of rfl ?_
                            intro L aq wq hL hd st wi
                            have o9 := st.outside (t := 9) rfl (v := .int .i64 (i : Int)) rfl
                            obtain ⟨u3, e3, V3⟩ := st.val 3 _ _ rfl rfl (hd ⟨3, .guard⟩ (by simp) rfl)
                            obtain rfl : .bool true = u3 := V3.symm
                            exact opTo_val (v := .int .i64 (i : Int)) (by simp [Region.wanted, yielded, e3]) (ex_move (.inl rfl) (eval_tmp o9)) ⟨(fun h => by cases h), rfl, wi⟩
                          | 6, _ =>
                            refine steps_of rfl ?_
                            intro L aq wq hL hd st wi
                            have o2 := st.outside (t := 2) rfl (v := .pointer (some ⟨pb2, 0, none⟩)) rfl
                            obtain ⟨u3, e3, V3⟩ := st.val 3 _ _ rfl rfl (hd ⟨3, .guard⟩ (by simp) rfl)
                            obtain rfl : .bool true = u3 := V3.symm
                            exact opTo_val (v := .pointer (some ⟨pb2, 0, none⟩)) (by simp [Region.wanted, yielded, e3]) (by simp [go_sem, Act.eval, o2]) ⟨(fun h => by cases h), rfl, wi⟩
                          | 7, _ =>
                            refine steps_of rfl ?_
                            intro L aq wq hL hd st wi
                            obtain ⟨u6, e6, V6⟩ := st.val 6 _ _ rfl rfl (hd ⟨6, .data⟩ (by simp) rfl)
                            obtain rfl : .pointer (some ⟨pb2, 0, none⟩) = u6 := V6.symm
                            obtain ⟨u5, e5, V5⟩ := st.val 5 _ _ rfl rfl (hd ⟨5, .data⟩ (by simp) rfl)
                            obtain rfl : .int .i64 (i : Int) = u5 := V5.symm
                            obtain ⟨u3, e3, V3⟩ := st.val 3 _ _ rfl rfl (hd ⟨3, .guard⟩ (by simp) rfl)
                            obtain rfl : .bool true = u3 := V3.symm
                            exact opTo_val (v := .pointer (some ⟨pb2, i * 4, none⟩)) (by simp [Region.wanted, yielded, e3]) (by have := hi2; simp [go_sem, Act.eval, e5, e6]; omega) ⟨(fun h => by cases h), rfl, wi⟩
                          | 8, _ =>
                            refine steps_of rfl ?_
                            intro L aq wq hL hd st wi
                            obtain ⟨u7, e7, V7⟩ := st.val 7 _ _ rfl rfl (hd ⟨7, .data⟩ (by simp) rfl)
                            obtain rfl : .pointer (some ⟨pb2, i * 4, none⟩) = u7 := V7.symm
                            obtain ⟨u3, e3, V3⟩ := st.val 3 _ _ rfl rfl (hd ⟨3, .guard⟩ (by simp) rfl)
                            obtain rfl : .bool true = u3 := V3.symm
                            exact opTo_val (v := .pointer (some ⟨pb2, i * 4 + 1, none⟩)) (by simp [Region.wanted, yielded, e3]) (by simp [go_sem, Act.eval, e7]) ⟨(fun h => by cases h), rfl, wi⟩
                          | 9, _ =>
                            refine steps_of rfl ?_
                            intro L aq wq hL hd st wi
                            obtain ⟨u8, e8, V8⟩ := st.val 8 _ _ rfl rfl (hd ⟨8, .data⟩ (by simp) rfl)
                            obtain rfl : .pointer (some ⟨pb2, i * 4 + 1, none⟩) = u8 := V8.symm
                            obtain ⟨u3, e3, V3⟩ := st.val 3 _ _ rfl rfl (hd ⟨3, .guard⟩ (by simp) rfl)
                            obtain rfl : .bool true = u3 := V3.symm
                            exact opTo_val (v := .slice (some ⟨b, off, none⟩) cn cc) (by simp [Region.wanted, yielded, e3]) (ex_load1 (ty := 34) rfl oneWritesL (eval_tmp e8) ((wi.cell (p := ⟨pb2, i * 4 + 1, none⟩) h2 trivial).trans g1)) ⟨(fun h => by cases h), rfl, wi⟩
                          | 10, _ =>
                            refine steps_of rfl ?_
                            intro L aq wq hL hd st wi
                            have o12 := st.outside (t := 12) rfl (v := .int .i64 (k : Int)) rfl
                            obtain ⟨u3, e3, V3⟩ := st.val 3 _ _ rfl rfl (hd ⟨3, .guard⟩ (by simp) rfl)
                            obtain rfl : .bool true = u3 := V3.symm
                            exact opTo_val (v := .int .i64 (k : Int)) (by simp [Region.wanted, yielded, e3]) (ex_move (.inl rfl) (eval_tmp o12)) ⟨(fun h => by cases h), rfl, wi⟩
                          | 11, _ =>
                            refine steps_of rfl ?_
                            intro L aq wq hL hd st wi
                            obtain ⟨u9, e9, V9⟩ := st.val 9 _ _ rfl rfl (hd ⟨9, .data⟩ (by simp) rfl)
                            obtain rfl : .slice (some ⟨b, off, none⟩) cn cc = u9 := V9.symm
                            obtain ⟨u10, e10, V10⟩ := st.val 10 _ _ rfl rfl (hd ⟨10, .data⟩ (by simp) rfl)
                            obtain rfl : .int .i64 (k : Int) = u10 := V10.symm
                            obtain ⟨u3, e3, V3⟩ := st.val 3 _ _ rfl rfl (hd ⟨3, .guard⟩ (by simp) rfl)
                            obtain rfl : .bool true = u3 := V3.symm
                            exact opTo_val (v := .pointer (some ⟨b, off + k * 257, none⟩)) (by simp [Region.wanted, yielded, e3]) (ex_idx rfl Try.underlying34 isAgg_write.2 b off cn cc k (eval_tmp e9) (eval_tmp e10) hkn) ⟨(fun h => by cases h), rfl, wi⟩
                          | 12, _ =>
                            refine steps_of rfl ?_
                            intro L aq wq hL hd st wi
                            obtain ⟨u11, e11, V11⟩ := st.val 11 _ _ rfl rfl (hd ⟨11, .data⟩ (by simp) rfl)
                            obtain rfl : .pointer (some ⟨b, off + k * 257, none⟩) = u11 := V11.symm
                            obtain ⟨u3, e3, V3⟩ := st.val 3 _ _ rfl rfl (hd ⟨3, .guard⟩ (by simp) rfl)
                            obtain rfl : .bool true = u3 := V3.symm
                            exact opTo_val (v := .agg (wrCells y)) (by simp [Region.wanted, yielded, e3]) (ex_load rfl isAgg_write b (off + k * 257) (eval_tmp e11) (wrCells y) hsz (fun j hj => (wi.cell (p := ⟨b, off + k * 257 + j, none⟩) hb0 trivial).trans (hc0 j hj))) ⟨(fun h => by cases h), rfl, wi⟩
                          | 13, _ =>
                            refine steps_of rfl ?_
                            intro L aq wq hL hd st wi
                            obtain ⟨u4, e4, V4⟩ := st.val 4 _ _ rfl rfl (hd ⟨4, .data⟩ (by simp) rfl)
                            obtain rfl : .agg (wrCells y) = u4 := V4.symm
                            obtain ⟨u12, e12, V12⟩ := st.val 12 _ _ rfl rfl (hd ⟨12, .data⟩ (by simp) rfl)
                            obtain rfl : .agg (wrCells y) = u12 := V12.symm
                            obtain ⟨u3, e3, V3⟩ := st.val 3 _ _ rfl rfl (hd ⟨3, .guard⟩ (by simp) rfl)
                            obtain rfl : .bool true = u3 := V3.symm
                            refine opTo_neq keyable_write hkd hkd (by simp [Region.wanted, yielded, e3]) rfl (eval_tmp e4) (eval_tmp e12) (fun r hr => ⟨(fun h => by cases h), ?_, wi⟩)
                            obtain rfl := hr.2 rfl
                            rfl
                          | 14, _ =>
                            refine steps_of rfl ?_
                            intro L aq wq hL hd st wi
                            obtain ⟨u3, e3, V3⟩ := st.val 3 _ _ rfl rfl (hd ⟨3, .data⟩ (by simp) rfl)
                            obtain rfl : .bool true = u3 := V3.symm
                            obtain ⟨u13, e13, V13⟩ := st.val 13 _ _ rfl rfl (hd ⟨13, .data⟩ (by simp) rfl)
                            obtain rfl : .bool false = u13 := V13.symm
                            exact opTo_val (v := .bool false) rfl (by simp [go_sem, Act.eval, e3, e13]) ⟨(fun h => by cases h), rfl, wi⟩
                          | 15, _ =>
                            refine steps_of rfl ?_
                            intro L aq wq hL hd st wi
                            obtain ⟨u14, e14, V14⟩ := st.val 14 _ _ rfl rfl (hd ⟨14, .data⟩ (by simp) rfl)
                            obtain rfl : .bool false = u14 := V14.symm
                            exact opTo_val (v := .bool false) rfl (ex_move (.inl rfl) (eval_tmp e14)) ⟨(fun h => by cases h), rfl, wi⟩
                          | 16, _ =>
                            refine steps_of rfl ?_
                            intro L aq wq hL hd st wi
                            have o12 := st.outside (t := 12) rfl (v := .int .i64 (k : Int)) rfl
                            obtain ⟨u15, e15, V15⟩ := st.val 15 _ _ rfl rfl (hd ⟨15, .guard⟩ (by simp) rfl)
                            obtain rfl : .bool false = u15 := V15.symm
                            exact opTo_val (v := .int .i64 (k : Int)) (by simp [Region.wanted, yielded, e15]) (ex_move (.inl rfl) (eval_tmp o12)) ⟨(fun h => by cases h), rfl, wi⟩
                          | 17, _ =>
                            refine steps_of rfl ?_
                            intro L aq wq hL hd st wi
                            have o10 := st.outside (t := 10) rfl (v := .int .i64 (cn : Int)) rfl
                            obtain ⟨u15, e15, V15⟩ := st.val 15 _ _ rfl rfl (hd ⟨15, .guard⟩ (by simp) rfl)
                            obtain rfl : .bool false = u15 := V15.symm
                            exact opTo_val (v := .int .i64 (cn : Int)) (by simp [Region.wanted, yielded, e15]) (ex_move (.inl rfl) (eval_tmp o10)) ⟨(fun h => by cases h), rfl, wi⟩
                          | 18, _ =>
                            refine steps_of rfl ?_
                            intro L aq wq hL hd st wi
                            obtain ⟨u16, e16, V16⟩ := st.val 16 _ _ rfl rfl (hd ⟨16, .data⟩ (by simp) rfl)
                            obtain rfl : .int .i64 (k : Int) = u16 := V16.symm
                            obtain ⟨u17, e17, V17⟩ := st.val 17 _ _ rfl rfl (hd ⟨17, .data⟩ (by simp) rfl)
                            obtain rfl : .int .i64 (cn : Int) = u17 := V17.symm
                            obtain ⟨u15, e15, V15⟩ := st.val 15 _ _ rfl rfl (hd ⟨15, .guard⟩ (by simp) rfl)
                            obtain rfl : .bool false = u15 := V15.symm
                            exact opTo_val (v := .bool false) (by simp [Region.wanted, yielded, e15]) (by have := hkn; simp [go_sem, Act.eval, e16, e17] <;> omega) ⟨(fun h => by cases h), rfl, wi⟩
                          | 19, _ =>
                            refine steps_of rfl ?_
                            intro L aq wq hL hd st wi
                            obtain ⟨u18, e18, V18⟩ := st.val 18 _ _ rfl rfl (hd ⟨18, .data⟩ (by simp) rfl)
                            obtain rfl : .bool false = u18 := V18.symm
                            obtain ⟨u15, e15, V15⟩ := st.val 15 _ _ rfl rfl (hd ⟨15, .chain⟩ (by simp) rfl)
                            obtain rfl : .bool false = u15 := V15.symm
                            exact opTo_val (v := .bool false) (by simp [Region.wanted, yielded, e15]) (ex_move (.inl rfl) (eval_tmp e18)) ⟨(fun h => by cases h), rfl, wi⟩
                          | 20, _ =>
                            refine steps_of rfl ?_
                            intro L aq wq hL hd st wi
                            have o3 := st.outside (t := 3) rfl (v := .pointer (some ⟨pb2 + 1, 0, none⟩)) rfl
                            obtain ⟨u19, e19, V19⟩ := st.val 19 _ _ rfl rfl (hd ⟨19, .guard⟩ (by simp) rfl)
                            obtain rfl : .bool false = u19 := V19.symm
                            exact opTo_not (by simp [Region.wanted, yielded, e19]) ⟨fun _ => rfl, rfl, wi⟩
                          | 21, _ =>
                            refine steps_of rfl ?_
                            intro L aq wq hL hd st wi
                            have o13 := st.outside (t := 13) rfl (v := .pointer (some ⟨wb, 0, none⟩)) rfl
                            obtain ⟨u19, e19, V19⟩ := st.val 19 _ _ rfl rfl (hd ⟨19, .guard⟩ (by simp) rfl)
                            obtain rfl : .bool false = u19 := V19.symm
                            exact opTo_not (by simp [Region.wanted, yielded, e19]) ⟨fun _ => rfl, rfl, wi⟩
                          | 22, _ =>
                            refine steps_of rfl ?_
                            intro L aq wq hL hd st wi
                            obtain ⟨u21, e21, V21⟩ := st.val 21 _ _ rfl rfl (hd ⟨21, .data⟩ (by simp) rfl)
                            obtain rfl : undef = u21 := V21.symm
                            obtain ⟨u19, e19, V19⟩ := st.val 19 _ _ rfl rfl (hd ⟨19, .guard⟩ (by simp) rfl)
                            obtain rfl : .bool false = u19 := V19.symm
                            exact opTo_not (by simp [Region.wanted, yielded, e19]) ⟨fun _ => rfl, rfl, wi⟩
                          | 23, _ =>
                            refine steps_of rfl ?_
                            intro L aq wq hL hd st wi
                            obtain ⟨u20, e20, V20⟩ := st.val 20 _ _ rfl rfl (hd ⟨20, .data⟩ (by simp) rfl)
                            obtain rfl : undef = u20 := V20.symm
                            obtain ⟨u22, e22, V22⟩ := st.val 22 _ _ rfl rfl (hd ⟨22, .data⟩ (by simp) rfl)
                            obtain rfl : undef = u22 := V22.symm
                            obtain ⟨u19, e19, V19⟩ := st.val 19 _ _ rfl rfl (hd ⟨19, .chain⟩ (by simp) rfl)
                            obtain rfl : .bool false = u19 := V19.symm
                            exact opTo_not (by simp [Region.wanted, yielded, e19]) ⟨fun _ => rfl, rfl, wi⟩
                          | 24, _ =>
                            refine steps_of rfl ?_
                            intro L aq wq hL hd st wi
                            obtain ⟨u23, e23, V23⟩ := st.val 23 _ _ rfl rfl (hd ⟨23, .data⟩ (by simp) rfl)
                            obtain rfl : undef = u23 := V23.symm
                            obtain ⟨u19, e19, V19⟩ := st.val 19 _ _ rfl rfl (hd ⟨19, .guard⟩ (by simp) rfl)
                            obtain rfl : .bool false = u19 := V19.symm
                            exact opTo_not (by simp [Region.wanted, yielded, e19]) ⟨fun _ => rfl, rfl, wi⟩
                          | 25, _ =>
                            refine steps_of rfl ?_
                            intro L aq wq hL hd st wi
                            obtain ⟨u19, e19, V19⟩ := st.val 19 _ _ rfl rfl (hd ⟨19, .data⟩ (by simp) rfl)
                            obtain rfl : .bool false = u19 := V19.symm
                            obtain ⟨u24, e24, V24⟩ := st.val 24 _ _ rfl rfl (hd ⟨24, .data⟩ (by simp) rfl)
                            obtain rfl : undef = u24 := V24.symm
                            obtain ⟨u15, e15, V15⟩ := st.val 15 _ _ rfl rfl (hd ⟨15, .guard⟩ (by simp) rfl)
                            obtain rfl : .bool false = u15 := V15.symm
                            exact opTo_val (v := .bool false) (by simp [Region.wanted, yielded, e15]) (by simp [go_sem, Act.eval, e19, e24]) ⟨(fun h => by cases h), rfl, wi⟩
                          | 26, _ =>
                            refine steps_of rfl ?_
                            intro L aq wq hL hd st wi
                            obtain ⟨u15, e15, V15⟩ := st.val 15 _ _ rfl rfl (hd ⟨15, .data⟩ (by simp) rfl)
                            obtain rfl : .bool false = u15 := V15.symm
                            obtain ⟨u25, e25, V25⟩ := st.val 25 _ _ rfl rfl (hd ⟨25, .data⟩ (by simp) rfl)
                            obtain rfl : .bool false = u25 := V25.symm
                            exact opTo_val (v := .bool false) rfl (by simp [go_sem, Act.eval, e15, e25]) ⟨(fun h => by cases h), rfl, wi⟩
                          | (m + 27), h => omega
                        case hend23a =>
                          intro vals w23 hV hW23
                          have x26 : vals 26 = .bool false := hV 26 _ _ rfl rfl
                          simp only [putAll, Act.put, List.setIfInBounds_toArray, List.set_cons_succ, List.set_cons_zero, x26]
                          have HZ := Lib.hid (HG0.out.trans hW23)
                          clear hV hW23 x26 hW0 HG0 g0 g1 g2 g3 q0 q1 q2 q3 h2 h6 hb0 hc0 hc0' hsz hkd hwc hwl HRW HSZ HOK HYY hyd
                          go_wp2_with fail
                          exact ⟨⟨k + 1, by omega, by simp, HZ⟩, by simp [intOf]; omega⟩
                      · have hfit : x.fits y.2 = true := by
                          obtain ⟨l, hl, hlf⟩ := HDW.out.cache
                          have h1 := HYY.out
                          rw [hl, List.getElem?_append_right (by rw [HDA.out.cn]; exact Nat.le_of_not_lt hkn)] at h1
                          exact hlf y (List.mem_of_getElem? h1)
                        have hyl := HOK.out.2
                        have hxr := (HWR.out.agrees HG0.out).r1
                        have hxl := (Array.getElem?_eq_some_iff.1 hxr).1
                        have hxc := Ptr.load x hxr
                        have hwc : ∀ j, j < 256 → W0.cell? ⟨wr.heap.size, 1 + j, none⟩ = (pageCells y.2)[j]? := fun j _ => by
                          rw [cell_of_row _ _ _ _ _ _ HRW.out, wrCells_get, wrL, ← pageL_get, Nat.add_comm]
                          rfl
                        have hsz : (pageCells y.2).size = 256 := by rw [pageCells_size]; exact hyl
                        refine wp_region_plan (by kernel_rfl) ?hok23b (by kernel_rfl) (vFw23b cn k wr.heap.size x y) (fun _ _ W => Agrees All W0 W) ?h023b (fun m hm => ?steps23b) ?hend23b
                        case hok23b => kernel_rfl
                        case h023b => exact fun vals => by rw [hW0]; exact Agrees.refl _ _
                        case steps23b =>
                          generalize w.heap.size + 1 = xb at *
                          generalize wr.heap.size = wb at *
                          have hm' : m < 27 := hm
                          match m, hm' with
                          | 0, _ =>
                            refine steps_of rfl ?_
                            intro L aq wq hL hd st wi
                            have o12 := st.outside (t := 12) rfl (v := .int .i64 (k : Int)) rfl
                            exact opTo_val (v := .int .i64 (k : Int)) rfl (ex_move (.inl rfl) (eval_tmp o12)) ⟨(fun h => by cases h), rfl, wi⟩
                          | 1, _ =>
                            refine steps_of rfl ?_
                            intro L aq wq hL hd st wi
                            have o10 := st.outside (t := 10) rfl (v := .int .i64 (cn : Int)) rfl
                            exact opTo_val (v := .int .i64 (cn : Int)) rfl (ex_move (.inl rfl) (eval_tmp o10)) ⟨(fun h => by cases h), rfl, wi⟩
                          | 2, _ =>
                            refine steps_of rfl ?_
                            intro L aq wq hL hd st wi
                            obtain ⟨u0, e0, V0⟩ := st.val 0 _ _ rfl rfl (hd ⟨0, .data⟩ (by simp) rfl)
                            obtain rfl : .int .i64 (k : Int) = u0 := V0.symm
                            obtain ⟨u1, e1, V1⟩ := st.val 1 _ _ rfl rfl (hd ⟨1, .data⟩ (by simp) rfl)
                            obtain rfl : .int .i64 (cn : Int) = u1 := V1.symm
                            exact opTo_val (v := .bool false) rfl (by have := hkn; simp [go_sem, Act.eval, e0, e1] <;> omega) ⟨(fun h => by cases h), rfl, wi⟩
                          | 3, _ =>
                            refine steps_of rfl ?_
                            intro L aq wq hL hd st wi
                            obtain ⟨u2, e2, V2⟩ := st.val 2 _ _ rfl rfl (hd ⟨2, .data⟩ (by simp) rfl)
                            obtain rfl : .bool false = u2 := V2.symm
                            exact opTo_val (v := .bool false) rfl (ex_move (.inl rfl) (eval_tmp e2)) ⟨(fun h => by cases h), rfl, wi⟩
                          | 4, _ =>
                            refine steps_of rfl ?_
                            intro L aq wq hL hd st wi
                            have o13 := st.outside (t := 13) rfl (v := .pointer (some ⟨wb, 0, none⟩)) rfl
                            obtain ⟨u3, e3, V3⟩ := st.val 3 _ _ rfl rfl (hd ⟨3, .guard⟩ (by simp) rfl)
                            obtain rfl : .bool false = u3 := V3.symm
                            exact opTo_not (by simp [Region.wanted, yielded, e3]) ⟨fun _ => rfl, rfl, wi⟩
                          | 5, _ =>
                            refine steps_of rfl ?_
                            intro L aq wq hL hd st wi
                            have o9 := st.outside (t := 9) rfl (v := .int .i64 (i : Int)) rfl
                            obtain ⟨u3, e3, V3⟩ := st.val 3 _ _ rfl rfl (hd ⟨3, .guard⟩ (by simp) rfl)
                            obtain rfl : .bool false = u3 := V3.symm
                            exact opTo_not (by simp [Region.wanted, yielded, e3]) ⟨fun _ => rfl, rfl, wi⟩
                          | 6, _ =>
                            refine steps_of rfl ?_
                            intro L aq wq hL hd st wi
                            have o2 := st.outside (t := 2) rfl (v := .pointer (some ⟨w.heap.size, 0, none⟩)) rfl
                            obtain ⟨u3, e3, V3⟩ := st.val 3 _ _ rfl rfl (hd ⟨3, .guard⟩ (by simp) rfl)
                            obtain rfl : .bool false = u3 := V3.symm
                            exact opTo_not (by simp [Region.wanted, yielded, e3]) ⟨fun _ => rfl, rfl, wi⟩
                          | 7, _ =>
                            refine steps_of rfl ?_
                            intro L aq wq hL hd st wi
                            obtain ⟨u6, e6, V6⟩ := st.val 6 _ _ rfl rfl (hd ⟨6, .data⟩ (by simp) rfl)
                            obtain rfl : undef = u6 := V6.symm
                            obtain ⟨u5, e5, V5⟩ := st.val 5 _ _ rfl rfl (hd ⟨5, .data⟩ (by simp) rfl)
                            obtain rfl : undef = u5 := V5.symm
                            obtain ⟨u3, e3, V3⟩ := st.val 3 _ _ rfl rfl (hd ⟨3, .guard⟩ (by simp) rfl)
                            obtain rfl : .bool false = u3 := V3.symm
                            exact opTo_not (by simp [Region.wanted, yielded, e3]) ⟨fun _ => rfl, rfl, wi⟩
                          | 8, _ =>
                            refine steps_of rfl ?_
                            intro L aq wq hL hd st wi
                            obtain ⟨u7, e7, V7⟩ := st.val 7 _ _ rfl rfl (hd ⟨7, .data⟩ (by simp) rfl)
                            obtain rfl : undef = u7 := V7.symm
                            obtain ⟨u3, e3, V3⟩ := st.val 3 _ _ rfl rfl (hd ⟨3, .guard⟩ (by simp) rfl)
                            obtain rfl : .bool false = u3 := V3.symm
                            exact opTo_not (by simp [Region.wanted, yielded, e3]) ⟨fun _ => rfl, rfl, wi⟩
                          | 9, _ =>
                            refine steps_of rfl ?_
                            intro L aq wq hL hd st wi
                            obtain ⟨u8, e8, V8⟩ := st.val 8 _ _ rfl rfl (hd ⟨8, .data⟩ (by simp) rfl)
                            obtain rfl : undef = u8 := V8.symm
                            obtain ⟨u3, e3, V3⟩ := st.val 3 _ _ rfl rfl (hd ⟨3, .guard⟩ (by simp) rfl)
                            obtain rfl : .bool false = u3 := V3.symm
                            exact opTo_not (by simp [Region.wanted, yielded, e3]) ⟨fun _ => rfl, rfl, wi⟩
                          | 10, _ =>
                            refine steps_of rfl ?_
                            intro L aq wq hL hd st wi
                            have o12 := st.outside (t := 12) rfl (v := .int .i64 (k : Int)) rfl
                            obtain ⟨u3, e3, V3⟩ := st.val 3 _ _ rfl rfl (hd ⟨3, .guard⟩ (by simp) rfl)
                            obtain rfl : .bool false = u3 := V3.symm
                            exact opTo_not (by simp [Region.wanted, yielded, e3]) ⟨fun _ => rfl, rfl, wi⟩
                          | 11, _ =>
                            refine steps_of rfl ?_
                            intro L aq wq hL hd st wi
                            obtain ⟨u9, e9, V9⟩ := st.val 9 _ _ rfl rfl (hd ⟨9, .data⟩ (by simp) rfl)
                            obtain rfl : undef = u9 := V9.symm
                            obtain ⟨u10, e10, V10⟩ := st.val 10 _ _ rfl rfl (hd ⟨10, .data⟩ (by simp) rfl)
                            obtain rfl : undef = u10 := V10.symm
                            obtain ⟨u3, e3, V3⟩ := st.val 3 _ _ rfl rfl (hd ⟨3, .guard⟩ (by simp) rfl)
                            obtain rfl : .bool false = u3 := V3.symm
                            exact opTo_not (by simp [Region.wanted, yielded, e3]) ⟨fun _ => rfl, rfl, wi⟩
                          | 12, _ =>
                            refine steps_of rfl ?_
                            intro L aq wq hL hd st wi
                            obtain ⟨u11, e11, V11⟩ := st.val 11 _ _ rfl rfl (hd ⟨11, .data⟩ (by simp) rfl)
                            obtain rfl : undef = u11 := V11.symm
                            obtain ⟨u3, e3, V3⟩ := st.val 3 _ _ rfl rfl (hd ⟨3, .guard⟩ (by simp) rfl)
                            obtain rfl : .bool false = u3 := V3.symm
                            exact opTo_not (by simp [Region.wanted, yielded, e3]) ⟨fun _ => rfl, rfl, wi⟩
                          | 13, _ =>
                            refine steps_of rfl ?_
                            intro L aq wq hL hd st wi
                            obtain ⟨u4, e4, V4⟩ := st.val 4 _ _ rfl rfl (hd ⟨4, .data⟩ (by simp) rfl)
                            obtain rfl : undef = u4 := V4.symm
                            obtain ⟨u12, e12, V12⟩ := st.val 12 _ _ rfl rfl (hd ⟨12, .data⟩ (by simp) rfl)
                            obtain rfl : undef = u12 := V12.symm
                            obtain ⟨u3, e3, V3⟩ := st.val 3 _ _ rfl rfl (hd ⟨3, .guard⟩ (by simp) rfl)
                            obtain rfl : .bool false = u3 := V3.symm
                            exact opTo_not (by simp [Region.wanted, yielded, e3]) ⟨fun _ => rfl, rfl, wi⟩
                          | 14, _ =>
                            refine steps_of rfl ?_
                            intro L aq wq hL hd st wi
                            obtain ⟨u3, e3, V3⟩ := st.val 3 _ _ rfl rfl (hd ⟨3, .data⟩ (by simp) rfl)
                            obtain rfl : .bool false = u3 := V3.symm
                            obtain ⟨u13, e13, V13⟩ := st.val 13 _ _ rfl rfl (hd ⟨13, .data⟩ (by simp) rfl)
                            obtain rfl : undef = u13 := V13.symm
                            exact opTo_val (v := .bool false) rfl (by simp [go_sem, Act.eval, e3, e13]) ⟨(fun h => by cases h), rfl, wi⟩
                          | 15, _ =>
                            refine steps_of rfl ?_
                            intro L aq wq hL hd st wi
                            obtain ⟨u14, e14, V14⟩ := st.val 14 _ _ rfl rfl (hd ⟨14, .data⟩ (by simp) rfl)
                            obtain rfl : .bool false = u14 := V14.symm
                            exact opTo_val (v := .bool false) rfl (ex_move (.inl rfl) (eval_tmp e14)) ⟨(fun h => by cases h), rfl, wi⟩
                          | 16, _ =>
                            refine steps_of rfl ?_
                            intro L aq wq hL hd st wi
                            have o12 := st.outside (t := 12) rfl (v := .int .i64 (k : Int)) rfl
                            obtain ⟨u15, e15, V15⟩ := st.val 15 _ _ rfl rfl (hd ⟨15, .guard⟩ (by simp) rfl)
                            obtain rfl : .bool false = u15 := V15.symm
                            exact opTo_val (v := .int .i64 (k : Int)) (by simp [Region.wanted, yielded, e15]) (ex_move (.inl rfl) (eval_tmp o12)) ⟨(fun h => by cases h), rfl, wi⟩
                          | 17, _ =>
                            refine steps_of rfl ?_
                            intro L aq wq hL hd st wi
                            have o10 := st.outside (t := 10) rfl (v := .int .i64 (cn : Int)) rfl
                            obtain ⟨u15, e15, V15⟩ := st.val 15 _ _ rfl rfl (hd ⟨15, .guard⟩ (by simp) rfl)
                            obtain rfl : .bool false = u15 := V15.symm
                            exact opTo_val (v := .int .i64 (cn : Int)) (by simp [Region.wanted, yielded, e15]) (ex_move (.inl rfl) (eval_tmp o10)) ⟨(fun h => by cases h), rfl, wi⟩
                          | 18, _ =>
                            refine steps_of rfl ?_
                            intro L aq wq hL hd st wi
                            obtain ⟨u16, e16, V16⟩ := st.val 16 _ _ rfl rfl (hd ⟨16, .data⟩ (by simp) rfl)
                            obtain rfl : .int .i64 (k : Int) = u16 := V16.symm
                            obtain ⟨u17, e17, V17⟩ := st.val 17 _ _ rfl rfl (hd ⟨17, .data⟩ (by simp) rfl)
                            obtain rfl : .int .i64 (cn : Int) = u17 := V17.symm
                            obtain ⟨u15, e15, V15⟩ := st.val 15 _ _ rfl rfl (hd ⟨15, .guard⟩ (by simp) rfl)
                            obtain rfl : .bool false = u15 := V15.symm
                            exact opTo_val (v := .bool true) (by simp [Region.wanted, yielded, e15]) (by have := hkn; simp [go_sem, Act.eval, e16, e17] <;> omega) ⟨(fun h => by cases h), rfl, wi⟩
                          | 19, _ =>
                            refine steps_of rfl ?_
                            intro L aq wq hL hd st wi
                            obtain ⟨u18, e18, V18⟩ := st.val 18 _ _ rfl rfl (hd ⟨18, .data⟩ (by simp) rfl)
                            obtain rfl : .bool true = u18 := V18.symm
                            obtain ⟨u15, e15, V15⟩ := st.val 15 _ _ rfl rfl (hd ⟨15, .chain⟩ (by simp) rfl)
                            obtain rfl : .bool false = u15 := V15.symm
                            exact opTo_val (v := .bool true) (by simp [Region.wanted, yielded, e15]) (ex_move (.inl rfl) (eval_tmp e18)) ⟨(fun h => by cases h), rfl, wi⟩
                          | 20, _ =>
                            refine steps_of rfl ?_
                            intro L aq wq hL hd st wi
                            have o3 := st.outside (t := 3) rfl (v := .pointer (some ⟨xb, 0, none⟩)) rfl
                            obtain ⟨u19, e19, V19⟩ := st.val 19 _ _ rfl rfl (hd ⟨19, .guard⟩ (by simp) rfl)
                            obtain rfl : .bool true = u19 := V19.symm
                            exact opTo_val (v := .agg x.cells) (by simp [Region.wanted, yielded, e19]) (ex_load rfl isAgg_ptr xb 0 (eval_tmp o3) x.cells rfl (fun j hj => (wi.cell (p := ⟨xb, 0 + j, none⟩) hxl trivial).trans (hxc j hj))) ⟨(fun h => by cases h), rfl, wi⟩
                          | 21, _ =>
                            refine steps_of rfl ?_
                            intro L aq wq hL hd st wi
                            have o13 := st.outside (t := 13) rfl (v := .pointer (some ⟨wb, 0, none⟩)) rfl
                            obtain ⟨u19, e19, V19⟩ := st.val 19 _ _ rfl rfl (hd ⟨19, .guard⟩ (by simp) rfl)
                            obtain rfl : .bool true = u19 := V19.symm
                            exact opTo_val (v := .pointer (some ⟨wb, 1, none⟩)) (by simp [Region.wanted, yielded, e19]) (by simp [go_sem, Act.eval, o13]) ⟨(fun h => by cases h), rfl, wi⟩
                          | 22, _ =>
                            refine steps_of rfl ?_
                            intro L aq wq hL hd st wi
                            obtain ⟨u21, e21, V21⟩ := st.val 21 _ _ rfl rfl (hd ⟨21, .data⟩ (by simp) rfl)
                            obtain rfl : .pointer (some ⟨wb, 1, none⟩) = u21 := V21.symm
                            obtain ⟨u19, e19, V19⟩ := st.val 19 _ _ rfl rfl (hd ⟨19, .guard⟩ (by simp) rfl)
                            obtain rfl : .bool true = u19 := V19.symm
                            exact opTo_val (v := .agg (pageCells y.2)) (by simp [Region.wanted, yielded, e19]) (ex_load rfl isAgg_page wb 1 (eval_tmp e21) (pageCells y.2) hsz (fun j hj => (wi.cell (p := ⟨wb, 1 + j, none⟩) hwl trivial).trans (hwc j hj))) ⟨(fun h => by cases h), rfl, wi⟩
                          | 23, _ =>
                            refine steps_of rfl ?_
                            intro L aq wq hL hd st wi
                            obtain ⟨u20, e20, V20⟩ := st.val 20 _ _ rfl rfl (hd ⟨20, .data⟩ (by simp) rfl)
                            obtain rfl : .agg x.cells = u20 := V20.symm
                            obtain ⟨u22, e22, V22⟩ := st.val 22 _ _ rfl rfl (hd ⟨22, .data⟩ (by simp) rfl)
                            obtain rfl : .agg (pageCells y.2) = u22 := V22.symm
                            obtain ⟨u19, e19, V19⟩ := st.val 19 _ _ rfl rfl (hd ⟨19, .chain⟩ (by simp) rfl)
                            obtain rfl : .bool true = u19 := V19.symm
                            refine opTo_call (w' := wq) (f := 18) (args := #[.agg x.cells, .agg (pageCells y.2)]) (by simp [Region.wanted, yielded, e19]) (by simp [go_sem, Act.eval, e20, e22]) ((rfits_calls x y.2 hyl wq).mono ?_)
                            rintro e w' ⟨rfl, hg⟩
                            exact ⟨_, rfl, (fun h => by cases h), (by rw [hfit]; rfl), wi.trans hg⟩
                          | 24, _ =>
                            refine steps_of rfl ?_
                            intro L aq wq hL hd st wi
                            obtain ⟨u23, e23, V23⟩ := st.val 23 _ _ rfl rfl (hd ⟨23, .data⟩ (by simp) rfl)
                            obtain rfl : .bool true = u23 := V23.symm
                            obtain ⟨u19, e19, V19⟩ := st.val 19 _ _ rfl rfl (hd ⟨19, .guard⟩ (by simp) rfl)
                            obtain rfl : .bool true = u19 := V19.symm
                            exact opTo_val (v := .bool false) (by simp [Region.wanted, yielded, e19]) (by simp [go_sem, Act.eval, e23]) ⟨(fun h => by cases h), rfl, wi⟩
                          | 25, _ =>
                            refine steps_of rfl ?_
                            intro L aq wq hL hd st wi
                            obtain ⟨u19, e19, V19⟩ := st.val 19 _ _ rfl rfl (hd ⟨19, .data⟩ (by simp) rfl)
                            obtain rfl : .bool true = u19 := V19.symm
                            obtain ⟨u24, e24, V24⟩ := st.val 24 _ _ rfl rfl (hd ⟨24, .data⟩ (by simp) rfl)
                            obtain rfl : .bool false = u24 := V24.symm
                            obtain ⟨u15, e15, V15⟩ := st.val 15 _ _ rfl rfl (hd ⟨15, .guard⟩ (by simp) rfl)
                            obtain rfl : .bool false = u15 := V15.symm
                            exact opTo_val (v := .bool false) (by simp [Region.wanted, yielded, e15]) (by simp [go_sem, Act.eval, e19, e24]) ⟨(fun h => by cases h), rfl, wi⟩
                          | 26, _ =>
                            refine steps_of rfl ?_
                            intro L aq wq hL hd st wi
                            obtain ⟨u15, e15, V15⟩ := st.val 15 _ _ rfl rfl (hd ⟨15, .data⟩ (by simp) rfl)
                            obtain rfl : .bool false = u15 := V15.symm
                            obtain ⟨u25, e25, V25⟩ := st.val 25 _ _ rfl rfl (hd ⟨25, .data⟩ (by simp) rfl)
                            obtain rfl : .bool false = u25 := V25.symm
                            exact opTo_val (v := .bool false) rfl (by simp [go_sem, Act.eval, e15, e25]) ⟨(fun h => by cases h), rfl, wi⟩
                          | (m + 27), h => omega
                        case hend23b =>
                          intro vals w23 hV hW23
                          have x26 : vals 26 = .bool false := hV 26 _ _ rfl rfl
                          simp only [putAll, Act.put, List.setIfInBounds_toArray, List.set_cons_succ, List.set_cons_zero, x26]
                          have HZ := Lib.hid (HG0.out.trans hW23)
                          clear hV hW23 x26 hW0 HG0 hfit hyl hxr hxl hxc hsz hwc hwl HRW HSZ HOK HYY
                          go_wp2_with fail
                          exact ⟨⟨k + 1, by omega, by simp, HZ⟩, by simp [intOf]; omega⟩
                    · obtain rfl : k = cn' := by omega
                      go_wp2_with fail
                      exact ⟨⟨i + 1, by omega, by simp, HY⟩, by simp [intOf]; omega⟩
          · obtain rfl : i = 2 := by omega
            have o9 : wr.cell? ⟨a + 1, 9, none⟩ = some (.bool (er == 100)) := by rw [← HOD.out]; exact (HWR.out.agrees HW.out).vals.2.2.2.1
            go_wp2_with fail
            refine (wakes_calls _).mono ?_
            rintro e W7 ⟨rfl, hag⟩
            have HF := Lib.hid (HA5.out.trans (HW.out.trans hag))
            clear hag
            go_wp2_with fail
            go_ret
            exact ⟨rfl, HF.out⟩
    · have hvd : v.down = true := by rw [← HV.out.down]; exact hdn
      rw [hvd] at c9
      obtain ⟨her, hop⟩ := HSD.out hdn
      subst her hop
      have HS := Lib.hid (same_calls ov v OP W5 HO.out (HV.out.agrees HA5.out fun _ h => h))
      clear hdn hvd HSD HSW o8 o9 t1 c8
      go_wp2_with (first
        | (refine wpList_val rfl (ex_load (ty := 40) rfl isAgg_pair w.heap.size 0 rfl v.cells rfl (v.load HWR.out.r0)) ?_)
        | (refine wpList_val rfl (ex_load (ty := 40) rfl isAgg_pair (a + 1) 0 rfl ov.cells rfl (ov.load HWR.out.r6)) ?_))
      refine HS.out.mono ?_
      rintro e W6 ⟨rfl, hag⟩
      have HA6 := Lib.hid (HA5.out.trans hag)
      clear hag c9
      go_wp2_with fail
      refine (wakes_calls W6).mono ?_
      rintro e W7 ⟨rfl, hag⟩
      have HF := Lib.hid (HA6.out.trans hag)
      clear hag
      go_wp2_with fail
      go_ret
      exact ⟨rfl, HF.out⟩
end Suture
