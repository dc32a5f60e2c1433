/-
  WHETHER A DISK MAY BE, as the document says: sutureref03.May.
  Conditions: none beyond the disk's own reading.
-/
import Derived.Test.YtmkbchhmeaefeaaFB7
namespace Suture
open Go Go.RowKit Go.Proofs
attribute [local go_sem] Oper.semAt_some

theorem rising_take {n : Int} : ∀ {l : List Int} {b : Int} (k : Nat), rising n b l = true → rising n b (l.take k) = true
  | [], _, k, _ => by simp [rising]
  | z :: l, b, 0, _ => rfl
  | z :: l, b, k + 1, h => by
    rw [rising, Bool.and_eq_true] at h
    rw [List.take_succ_cons, rising, Bool.and_eq_true]
    exact ⟨h.1, rising_take k h.2⟩
theorem rising_last {n : Int} : ∀ {l : List Int} {b : Int}, rising n b l = true → b ≤ l.getLastD b
  | [], _, _ => by simp
  | z :: l, b, h => by
    rw [rising, Bool.and_eq_true, Bool.and_eq_true] at h
    have h1 := of_decide_eq_true h.1.1
    have h2 := rising_last h.2
    have : (z :: l).getLastD b = l.getLastD z := by cases l <;> simp [List.getLast?_cons]
    rw [this]; omega
theorem take_last {l : List Int} {k : Nat} {y : Int} (h : l[k]? = some y) : (l.take (k + 1)).getLastD (-1) = y := by
  rw [List.take_add_one, h]; simp

def vMayA (db b off n cap k : Nat) (z : Int) : Nat → Value → Prop
  | 0, val => val = .pointer (some ⟨db, 2, none⟩)
  | 1, val => val = .slice (some ⟨b, off, none⟩) n cap
  | 2, val => val = .int .i64 (k : Int)
  | 3, val => val = .pointer (some ⟨b, off + k * 1, none⟩)
  | 4, val => val = .int .i64 z
  | 5, val => val = .bool true
  | 6, val => val = .bool true
  | 7, val => val = undef
  | 8, val => val = undef
  | 9, val => val = undef
  | 10, val => val = undef
  | 11, val => val = undef
  | 12, val => val = undef
  | 13, val => val = undef
  | 14, val => val = .bool true
  | 15, val => val = .bool true
  | 16, val => val = undef
  | 17, val => val = undef
  | 18, val => val = undef
  | 19, val => val = undef
  | 20, val => val = undef
  | 21, val => val = undef
  | 22, val => val = undef
  | 23, val => val = undef
  | 24, val => val = undef
  | 25, val => val = undef
  | 26, val => val = undef
  | 27, val => val = undef
  | 28, val => val = undef
  | 29, val => val = undef
  | 30, val => val = undef
  | 31, val => val = undef
  | 32, val => val = .bool true
  | _, _ => True
def vMayB (db b off n cap pn k : Nat) (z : Int) : Nat → Value → Prop
  | 0, val => val = .pointer (some ⟨db, 2, none⟩)
  | 1, val => val = .slice (some ⟨b, off, none⟩) n cap
  | 2, val => val = .int .i64 (k : Int)
  | 3, val => val = .pointer (some ⟨b, off + k * 1, none⟩)
  | 4, val => val = .int .i64 z
  | 5, val => val = .bool false
  | 6, val => val = .bool false
  | 7, val => val = .pointer (some ⟨db, 2, none⟩)
  | 8, val => val = .slice (some ⟨b, off, none⟩) n cap
  | 9, val => val = .int .i64 (k : Int)
  | 10, val => val = .pointer (some ⟨b, off + k * 1, none⟩)
  | 11, val => val = .int .i64 z
  | 12, val => val = .int .i64 (pn : Int)
  | 13, val => val = .bool true
  | 14, val => val = .bool true
  | 15, val => val = .bool true
  | 16, val => val = undef
  | 17, val => val = undef
  | 18, val => val = undef
  | 19, val => val = undef
  | 20, val => val = undef
  | 21, val => val = undef
  | 22, val => val = undef
  | 23, val => val = undef
  | 24, val => val = undef
  | 25, val => val = undef
  | 26, val => val = undef
  | 27, val => val = undef
  | 28, val => val = undef
  | 29, val => val = undef
  | 30, val => val = undef
  | 31, val => val = undef
  | 32, val => val = .bool true
  | _, _ => True
def vMayC (db b off n cap pn k : Nat) (z : Int) : Nat → Value → Prop
  | 0, val => val = .pointer (some ⟨db, 2, none⟩)
  | 1, val => val = .slice (some ⟨b, off, none⟩) n cap
  | 2, val => val = .int .i64 (k : Int)
  | 3, val => val = .pointer (some ⟨b, off + k * 1, none⟩)
  | 4, val => val = .int .i64 z
  | 5, val => val = .bool false
  | 6, val => val = .bool false
  | 7, val => val = .pointer (some ⟨db, 2, none⟩)
  | 8, val => val = .slice (some ⟨b, off, none⟩) n cap
  | 9, val => val = .int .i64 (k : Int)
  | 10, val => val = .pointer (some ⟨b, off + k * 1, none⟩)
  | 11, val => val = .int .i64 z
  | 12, val => val = .int .i64 (pn : Int)
  | 13, val => val = .bool false
  | 14, val => val = .bool false
  | 15, val => val = .bool false
  | 16, val => val = .int .i64 (k : Int)
  | 17, val => val = .bool false
  | 18, val => val = .bool false
  | 19, val => val = undef
  | 20, val => val = undef
  | 21, val => val = undef
  | 22, val => val = undef
  | 23, val => val = undef
  | 24, val => val = undef
  | 25, val => val = undef
  | 26, val => val = undef
  | 27, val => val = undef
  | 28, val => val = undef
  | 29, val => val = undef
  | 30, val => val = undef
  | 31, val => val = .bool false
  | 32, val => val = .bool false
  | _, _ => True
def vMayD (db b off n cap pn k j : Nat) (z y : Int) : Nat → Value → Prop
  | 0, val => val = .pointer (some ⟨db, 2, none⟩)
  | 1, val => val = .slice (some ⟨b, off, none⟩) n cap
  | 2, val => val = .int .i64 (k : Int)
  | 3, val => val = .pointer (some ⟨b, off + k * 1, none⟩)
  | 4, val => val = .int .i64 z
  | 5, val => val = .bool false
  | 6, val => val = .bool false
  | 7, val => val = .pointer (some ⟨db, 2, none⟩)
  | 8, val => val = .slice (some ⟨b, off, none⟩) n cap
  | 9, val => val = .int .i64 (k : Int)
  | 10, val => val = .pointer (some ⟨b, off + k * 1, none⟩)
  | 11, val => val = .int .i64 z
  | 12, val => val = .int .i64 (pn : Int)
  | 13, val => val = .bool false
  | 14, val => val = .bool false
  | 15, val => val = .bool false
  | 16, val => val = .int .i64 (k : Int)
  | 17, val => val = .bool true
  | 18, val => val = .bool true
  | 19, val => val = .pointer (some ⟨db, 2, none⟩)
  | 20, val => val = .slice (some ⟨b, off, none⟩) n cap
  | 21, val => val = .int .i64 (k : Int)
  | 22, val => val = .int .i64 (j : Int)
  | 23, val => val = .pointer (some ⟨b, off + j * 1, none⟩)
  | 24, val => val = .int .i64 y
  | 25, val => val = .pointer (some ⟨db, 2, none⟩)
  | 26, val => val = .slice (some ⟨b, off, none⟩) n cap
  | 27, val => val = .int .i64 (k : Int)
  | 28, val => val = .pointer (some ⟨b, off + k * 1, none⟩)
  | 29, val => val = .int .i64 z
  | 30, val => val = .bool (decide (z ≤ y))
  | 31, val => val = .bool (decide (z ≤ y))
  | 32, val => val = .bool (decide (z ≤ y))
  | _, _ => True

set_option maxHeartbeats 8000000 in
set_option maxRecDepth 100000 in
theorem rmay_calls (v : DV) (d : Disk) (w : World) (hv : DiskAt All w v d) :
    Calls Try.prog 60 #[.agg v.cells] w fun e w' => e = .returned (.bool d.may) ∧ Agrees All w w' := by
  obtain ⟨pa, pn, pc, ca, cn, cc, ba, bn, bc, off⟩ := v
  obtain ⟨W1, hW1⟩ : ∃ W1, w.alloc (.cells (DV.mk pa pn pc ca cn cc ba bn bc off).cells 37) = W1 := ⟨_, rfl⟩
  have hA1 : Agrees All w W1 := by rw [← hW1]; exact (Agrees.refl _ w).alloc _
  have hr1 : W1.heap[w.heap.size]? = some (.cells (DV.mk pa pn pc ca cn cc ba bn bc off).cells 37 (0, 0)) := by rw [← hW1]; exact World.alloc_heap_new w _
  have hpn := hv.pn
  have hcn := hv.cn
  have hbn := hv.bn
  have hoff := hv.off
  have hmp := hv.pages.max.1
  have hmc := hv.cache.max.1
  have hmb := hv.bad.max.1
  simp only at hpn hcn hbn hoff
  have HV := Lib.hid hv
  have HPN := Lib.hid hpn
  have HCN := Lib.hid hcn
  have HBN := Lib.hid hbn
  have HOFF := Lib.hid hoff
  have HA1 := Lib.hid hA1
  have HR1 := Lib.hid hr1
  clear hv hpn hcn hbn hoff hA1 hr1
  have HMAY : RowKit.Hid (d.may = (d.may0 && d.cache.all (placed d.size) && rising d.size (-1) d.bad)) := Lib.hid rfl
  go_enter Try.func60, Try.ntmps60
  refine wp_cut3 (Here (fun (_ : Unit) u => (u 0 :: (.pointer (some ⟨w.heap.size, 0, none⟩) : Value) :: u 2 :: (.int .i64 (pn : Int) : Value) :: u 4 :: u 5 :: u 6 :: u 7 :: u 8 :: u 9 :: u 10 :: u 11 :: u 12 :: u 13 :: u 14 :: u 15 :: u 16 :: u 17 :: u 18 :: u 19 :: u 20 :: u 21 :: u 22 :: u 23 :: u 24 :: u 25 :: u 26 :: u 27 :: u 28 :: u 29 :: u 30 :: u 31 :: u 32 :: u 33 :: u 34 :: u 35 :: u 36 :: u 37 :: u 38 :: u 39 :: u 40 :: u 41 :: u 42 :: u 43 :: u 44 :: u 45 :: u 46 :: u 47 :: u 48 :: u 49 :: u 50 :: u 51 :: u 52 :: u 53 :: u 54 :: u 55 :: u 56 :: u 57 :: u 58 :: u 59 :: u 60 :: u 61 :: u 62 :: u 63 :: u 64 :: u 65 :: u 66 :: u 67 :: u 68 :: u 69 :: u 70 :: u 71 :: u 72 :: u 73 :: u 74 :: u 75 :: u 76 :: u 77 :: u 78 :: u 79 :: u 80 :: u 81 :: u 82 :: u 83 :: u 84 :: u 85 :: u 86 :: u 87 :: u 88 :: u 89 :: u 90 :: u 91 :: u 92 :: u 93 :: u 94 :: []).toArray) (fun _ W => d.may0 = true ∧ Agrees All W1 W)) ?part1 ?part2
  case part1 =>
    intro K1 K2 hK1 hK2
    have c0 : W1.cell? ⟨w.heap.size, 0, none⟩ = some (.slice pa pn pc) := by rw [cell_of_row _ _ _ _ _ _ HR1.out]; rfl
    have c1 : W1.cell? ⟨w.heap.size, 1, none⟩ = some (.slice ca cn cc) := by rw [cell_of_row _ _ _ _ _ _ HR1.out]; rfl
    have c3 : W1.cell? ⟨w.heap.size, 3, none⟩ = some (.bool off) := by rw [cell_of_row _ _ _ _ _ _ HR1.out]; rfl
    have HM : RowKit.Hid (d.may0 = (decide (32 ≤ (pn : Int)) && decide ((pn : Int) ≤ 256) && decide ((cn : Int) ≤ 2000) && !(off && decide (0 < (cn : Int))))) := by
      unfold Disk.may0 Disk.size
      rw [HPN.out, HCN.out, HOFF.out]
      exact Lib.hid rfl
    cases off
    all_goals
      go_wp2_with fail
      all_goals
        first
          | (refine here_of () (by rfl) rfl ⟨?_, Agrees.refl _ _⟩
             rw [HM.out]
             simp
             omega)
          | (go_ret
             refine ⟨?_, HA1.out⟩
             have hm0 : d.may0 = false := by
               rw [HM.out, Bool.eq_false_iff]
               intro h
               simp at h
               omega
             rw [HMAY.out, hm0]
             rfl)
  case part2 =>
    rintro a' W ⟨_, u, rfl, hm0, hag⟩
    have HAG := Lib.hid hag
    have HM0 := Lib.hid hm0
    clear hag hm0 hW1
    refine wp_seq_cut (Here (fun (_ : Unit) u => (u 0 :: (.pointer (some ⟨w.heap.size, 0, none⟩) : Value) :: u 2 :: (.int .i64 (pn : Int) : Value) :: u 4 :: u 5 :: u 6 :: u 7 :: u 8 :: u 9 :: u 10 :: u 11 :: u 12 :: u 13 :: u 14 :: u 15 :: u 16 :: u 17 :: u 18 :: u 19 :: u 20 :: u 21 :: u 22 :: u 23 :: u 24 :: u 25 :: u 26 :: u 27 :: u 28 :: u 29 :: u 30 :: u 31 :: u 32 :: u 33 :: u 34 :: u 35 :: u 36 :: u 37 :: u 38 :: u 39 :: u 40 :: u 41 :: u 42 :: u 43 :: u 44 :: u 45 :: u 46 :: u 47 :: u 48 :: u 49 :: u 50 :: u 51 :: u 52 :: u 53 :: u 54 :: u 55 :: u 56 :: u 57 :: u 58 :: u 59 :: u 60 :: u 61 :: u 62 :: u 63 :: u 64 :: u 65 :: u 66 :: u 67 :: u 68 :: u 69 :: u 70 :: u 71 :: u 72 :: u 73 :: u 74 :: u 75 :: u 76 :: u 77 :: u 78 :: u 79 :: u 80 :: u 81 :: u 82 :: u 83 :: u 84 :: u 85 :: u 86 :: u 87 :: u 88 :: u 89 :: u 90 :: u 91 :: u 92 :: u 93 :: u 94 :: []).toArray) (fun _ W => d.cache.all (placed d.size) = true ∧ Agrees All W1 W)) ?part3 ?part4
    case part3 =>
      go_wp2_with fail
      go_loopw [4] (fun ii wr => ∃ i : Nat, i ≤ cn ∧ ii = .int .i64 i ∧ RowKit.Hid ((d.cache.take i).all (placed d.size) = true ∧ Agrees All W1 wr)) (fun ii _ => cn - (intOf ii).toNat)
      case atStart => exact ⟨0, by omega, rfl, Lib.hid ⟨rfl, HAG.out⟩⟩
      case round =>
        obtain ⟨i, hi, rfl, HW⟩ := hrel
        have hr := (HW.out.2.block _ (Array.getElem?_eq_some_iff.1 HR1.out).1 trivial).trans HR1.out
        have c1 : wr.cell? ⟨w.heap.size, 1, none⟩ = some (.slice ca cn cc) := by rw [cell_of_row _ _ _ _ _ _ hr]; rfl
        clear hr
        by_cases hlt : i < cn
        · obtain ⟨x, hx⟩ : ∃ x, d.cache[i]? = some x := ⟨_, List.getElem?_eq_getElem (by rw [HCN.out]; exact hlt)⟩
          obtain ⟨b, off', rfl, _, hbl, hc⟩ := CellsAt.elem (f := wrL) ((HV.out.cache.agrees (HA1.out.trans HW.out.2) fun _ h => h)) (fun y hy => by rw [wrL_length, (HV.out.ok.wr y hy).2]) (by omega) hx
          have hx0 : wr.cell? ⟨b, off' + i * 257, none⟩ = some (.int .i64 x.1) := hc 0 (by omega)
          have HP : RowKit.Hid (placed d.size x = (decide (0 ≤ x.1) && decide (x.1 < (pn : Int)))) := by
            simp [placed, Disk.size, HPN.out, RowKit.Hid]
          have HS : RowKit.Hid ((d.cache.take (i + 1)).all (placed d.size) = ((d.cache.take i).all (placed d.size) && placed d.size x)) := by
            rw [List.take_add_one, hx, List.all_append]
            simp [RowKit.Hid]
          have HFL : RowKit.Hid (placed d.size x = false → d.may = false) := by
            refine Lib.hid fun hh => ?_
            have h0 : d.cache.all (placed d.size) = false := by
              rw [List.all_eq_false]; exact ⟨x, List.mem_of_getElem? hx, by rw [hh]; exact Bool.false_ne_true⟩
            rw [HMAY.out, h0]; simp
          clear hc hx HV HR1
          by_cases h0 : 0 ≤ x.1 <;> by_cases h1 : x.1 < (pn : Int)
          all_goals try (exfalso; omega)
          all_goals
            go_wp2_with fail
            first
              | (go_ret
                 exact ⟨congrArg (fun b => Ending.returned (Value.bool b)) (HFL.out (by rw [HP.out]; simp [h0, h1])).symm, HA1.out.trans HW.out.2⟩)
              | (refine ⟨⟨i + 1, by omega, by simp, Lib.hid ⟨?_, HW.out.2⟩⟩, by simp [intOf]; omega⟩
                 rw [HS.out, HW.out.1, HP.out]
                 simp [h0, h1])
        · obtain rfl : i = cn := by omega
          have HEND : RowKit.Hid (d.cache.all (placed d.size) = true) := by
            have := HW.out.1
            rw [List.take_of_length_le (by rw [HCN.out]; exact Nat.le_refl _)] at this
            exact this
          have HAE := Lib.hid HW.out.2
          clear HW
          go_wp2_with fail
          exact here_of () (by rfl) rfl ⟨by simpa using HEND.out, HAE.out⟩
    case part4 =>
      rintro a' Wb ⟨_, u2, rfl, hca, hagb⟩
      have HAB := Lib.hid hagb
      have HCA := Lib.hid hca
      clear hca hagb HAG
      simp only
      go_wp2_with fail
      go_loopw [5] (fun ii wr => ∃ k : Nat, k ≤ bn ∧ ii = .int .i64 k ∧ RowKit.Hid (rising d.size (-1) (d.bad.take k) = true ∧ Agrees All W1 wr)) (fun ii _ => bn - (intOf ii).toNat)
      case atStart => exact ⟨0, by omega, rfl, Lib.hid ⟨rfl, HAB.out⟩⟩
      case round =>
        obtain ⟨k, hk, rfl, HW⟩ := hrel
        have hrr := (HW.out.2.block _ (Array.getElem?_eq_some_iff.1 HR1.out).1 trivial).trans HR1.out
        have c2 : wr.cell? ⟨w.heap.size, 2, none⟩ = some (.slice ba bn bc) := by rw [cell_of_row _ _ _ _ _ _ hrr]; rfl
        by_cases hlt : k < bn
        · obtain ⟨z, hz⟩ : ∃ z, d.bad[k]? = some z := ⟨_, List.getElem?_eq_getElem (by rw [HBN.out]; omega)⟩
          obtain ⟨W0, hW0⟩ : ∃ W0, wr.drew = W0 := ⟨_, rfl⟩
          have hag0 : Agrees All w W0 := by rw [← hW0]; exact (HA1.out.trans HW.out.2).drew
          obtain ⟨b, off', rfl, _, hbl, hc0⟩ := CellsAt.elem (f := intL) (HV.out.bad.agrees hag0 fun _ h => h) (fun y hy => rfl) (by omega) hz
          have HX0 : RowKit.Hid (W0.cell? ⟨b, off' + k * 1, none⟩ = some (.int .i64 z)) := hc0 0 (by omega)
          have HDR : RowKit.Hid (W0.heap[w.heap.size]? = some (.cells (DV.mk pa pn pc ca cn cc (some ⟨b, off', none⟩) bn bc off).cells 37 (0, 0))) := by rw [← hW0]; exact hrr
          have hsn : rising d.size (-1) (d.bad.take (k + 1)) = (decide ((d.bad.take k).getLastD (-1) < z) && decide (z < (pn : Int))) := by
            rw [List.take_add_one, hz]
            simp only [Option.toList]
            rw [rising_snoc, HW.out.1]
            simp [Disk.size, HPN.out]
          have hlow : -1 ≤ (d.bad.take k).getLastD (-1) := rising_last HW.out.1
          have HFAIL : RowKit.Hid (((d.bad.take k).getLastD (-1) < z → ¬ z < (pn : Int)) → d.may = false) := by
            refine Lib.hid fun hh => ?_
            have h0 : rising d.size (-1) d.bad = false := by
              rw [Bool.eq_false_iff]
              intro hr
              have := rising_take (k + 1) hr
              rw [hsn, Bool.and_eq_true] at this
              exact hh (of_decide_eq_true this.1) (of_decide_eq_true this.2)
            rw [HMAY.out, h0]; simp
          have HSTEP : RowKit.Hid ((d.bad.take k).getLastD (-1) < z → z < (pn : Int) → rising d.size (-1) (d.bad.take (k + 1)) = true) := by
            refine Lib.hid fun h1 h2 => ?_
            rw [hsn, decide_eq_true h1, decide_eq_true h2]; rfl
          have HLOW := Lib.hid hlow
          have HZ := Lib.hid hz
          have HBL := Lib.hid hbl
          have HAG0 := Lib.hid hag0
          clear hc0 hrr hz hbl hag0 hsn hlow HMAY
          by_cases h0 : z < 0
          · have hd0 : decide (z < 0) = true := decide_eq_true h0
            go_wp2_with fail
            have hdr := HDR.out
            have hbl := HBL.out
            have hx0 := HX0.out
            refine wp_region_plan (by kernel_rfl) ?hokA (by kernel_rfl) (vMayA w.heap.size b off' bn bc k z) (fun _ _ W => Agrees All W0 W) ?h0A (fun i hi => ?stepsA) ?hendA
            case hokA => kernel_rfl
            case h0A => exact fun vals => by rw [hW0]; exact Agrees.refl _ _
            case stepsA =>
              generalize w.heap.size = db at *
              generalize off' = off at *
              generalize bn = n at *
              generalize bc = cap at *
              have hi' : i < 33 := hi
              match i, hi' with
              | 0, _ =>
                refine steps_of rfl ?_
                intro L aq wq hL hd st wi
                have o1 := st.outside (t := 1) rfl (v := .pointer (some ⟨db, 0, none⟩)) rfl
                exact opTo_val (v := .pointer (some ⟨db, 2, none⟩)) rfl (by simp [go_sem, Act.eval, o1]) ⟨(fun h => by cases h), rfl, wi⟩
              | 1, _ =>
                refine steps_of rfl ?_
                intro L aq wq hL hd st wi
                obtain ⟨u0, e0, V0⟩ := st.val 0 _ _ rfl rfl (hd ⟨0, .data⟩ (by simp) rfl)
                obtain rfl : .pointer (some ⟨db, 2, none⟩) = u0 := V0.symm
                exact opTo_val (v := .slice (some ⟨b, off, none⟩) n cap) rfl (ex_load1 (ty := 35) rfl oneIntsL (eval_tmp e0) (by rw [cell_of_row _ _ _ _ _ _ ((wi.block _ (Array.getElem?_eq_some_iff.1 hdr).1 trivial).trans hdr)]; rfl)) ⟨(fun h => by cases h), rfl, wi⟩
              | 2, _ =>
                refine steps_of rfl ?_
                intro L aq wq hL hd st wi
                have o5 := st.outside (t := 5) rfl (v := .int .i64 (k : Int)) rfl
                exact opTo_val (v := .int .i64 (k : Int)) rfl (ex_move (.inl rfl) (eval_tmp o5)) ⟨(fun h => by cases h), rfl, wi⟩
              | 3, _ =>
                refine steps_of rfl ?_
                intro L aq wq hL hd st wi
                obtain ⟨u1, e1, V1⟩ := st.val 1 _ _ rfl rfl (hd ⟨1, .data⟩ (by simp) rfl)
                obtain rfl : .slice (some ⟨b, off, none⟩) n cap = u1 := V1.symm
                obtain ⟨u2, e2, V2⟩ := st.val 2 _ _ rfl rfl (hd ⟨2, .data⟩ (by simp) rfl)
                obtain rfl : .int .i64 (k : Int) = u2 := V2.symm
                exact opTo_val (v := .pointer (some ⟨b, off + k * 1, none⟩)) rfl (ex_idx rfl Try.underlying35 oneInt.2 b off n cap k (eval_tmp e1) (eval_tmp e2) (by omega)) ⟨(fun h => by cases h), rfl, wi⟩
              | 4, _ =>
                refine steps_of rfl ?_
                intro L aq wq hL hd st wi
                obtain ⟨u3, e3, V3⟩ := st.val 3 _ _ rfl rfl (hd ⟨3, .data⟩ (by simp) rfl)
                obtain rfl : .pointer (some ⟨b, off + k * 1, none⟩) = u3 := V3.symm
                exact opTo_val (v := .int .i64 z) rfl (ex_load1 (ty := 3) rfl oneInt (eval_tmp e3) ((wi.cell (p := ⟨b, off + k * 1, none⟩) hbl trivial).trans hx0)) ⟨(fun h => by cases h), rfl, wi⟩
              | 5, _ =>
                refine steps_of rfl ?_
                intro L aq wq hL hd st wi
                obtain ⟨u4, e4, V4⟩ := st.val 4 _ _ rfl rfl (hd ⟨4, .data⟩ (by simp) rfl)
                obtain rfl : .int .i64 z = u4 := V4.symm
                exact opTo_val (v := .bool true) rfl (by simp [go_sem, Act.eval, e4, hd0]) ⟨(fun h => by cases h), rfl, wi⟩
              | 6, _ =>
                refine steps_of rfl ?_
                intro L aq wq hL hd st wi
                obtain ⟨u5, e5, V5⟩ := st.val 5 _ _ rfl rfl (hd ⟨5, .data⟩ (by simp) rfl)
                obtain rfl : .bool true = u5 := V5.symm
                exact opTo_val (v := .bool true) rfl (ex_move (.inl rfl) (eval_tmp e5)) ⟨(fun h => by cases h), rfl, wi⟩
              | 7, _ =>
                refine steps_of rfl ?_
                intro L aq wq hL hd st wi
                have o1 := st.outside (t := 1) rfl (v := .pointer (some ⟨db, 0, none⟩)) rfl
                obtain ⟨u6, e6, V6⟩ := st.val 6 _ _ rfl rfl (hd ⟨6, .guard⟩ (by simp) rfl)
                obtain rfl : .bool true = u6 := V6.symm
                exact opTo_not (by simp [Region.wanted, yielded, e6]) ⟨fun _ => rfl, rfl, wi⟩
              | 8, _ =>
                refine steps_of rfl ?_
                intro L aq wq hL hd st wi
                obtain ⟨u7, e7, V7⟩ := st.val 7 _ _ rfl rfl (hd ⟨7, .data⟩ (by simp) rfl)
                obtain rfl : undef = u7 := V7.symm
                obtain ⟨u6, e6, V6⟩ := st.val 6 _ _ rfl rfl (hd ⟨6, .guard⟩ (by simp) rfl)
                obtain rfl : .bool true = u6 := V6.symm
                exact opTo_not (by simp [Region.wanted, yielded, e6]) ⟨fun _ => rfl, rfl, wi⟩
              | 9, _ =>
                refine steps_of rfl ?_
                intro L aq wq hL hd st wi
                have o5 := st.outside (t := 5) rfl (v := .int .i64 (k : Int)) rfl
                obtain ⟨u6, e6, V6⟩ := st.val 6 _ _ rfl rfl (hd ⟨6, .guard⟩ (by simp) rfl)
                obtain rfl : .bool true = u6 := V6.symm
                exact opTo_not (by simp [Region.wanted, yielded, e6]) ⟨fun _ => rfl, rfl, wi⟩
              | 10, _ =>
                refine steps_of rfl ?_
                intro L aq wq hL hd st wi
                obtain ⟨u8, e8, V8⟩ := st.val 8 _ _ rfl rfl (hd ⟨8, .data⟩ (by simp) rfl)
                obtain rfl : undef = u8 := V8.symm
                obtain ⟨u9, e9, V9⟩ := st.val 9 _ _ rfl rfl (hd ⟨9, .data⟩ (by simp) rfl)
                obtain rfl : undef = u9 := V9.symm
                obtain ⟨u6, e6, V6⟩ := st.val 6 _ _ rfl rfl (hd ⟨6, .guard⟩ (by simp) rfl)
                obtain rfl : .bool true = u6 := V6.symm
                exact opTo_not (by simp [Region.wanted, yielded, e6]) ⟨fun _ => rfl, rfl, wi⟩
              | 11, _ =>
                refine steps_of rfl ?_
                intro L aq wq hL hd st wi
                obtain ⟨u10, e10, V10⟩ := st.val 10 _ _ rfl rfl (hd ⟨10, .data⟩ (by simp) rfl)
                obtain rfl : undef = u10 := V10.symm
                obtain ⟨u6, e6, V6⟩ := st.val 6 _ _ rfl rfl (hd ⟨6, .guard⟩ (by simp) rfl)
                obtain rfl : .bool true = u6 := V6.symm
                exact opTo_not (by simp [Region.wanted, yielded, e6]) ⟨fun _ => rfl, rfl, wi⟩
              | 12, _ =>
                refine steps_of rfl ?_
                intro L aq wq hL hd st wi
                have o3 := st.outside (t := 3) rfl (v := .int .i64 (pn : Int)) rfl
                obtain ⟨u6, e6, V6⟩ := st.val 6 _ _ rfl rfl (hd ⟨6, .guard⟩ (by simp) rfl)
                obtain rfl : .bool true = u6 := V6.symm
                exact opTo_not (by simp [Region.wanted, yielded, e6]) ⟨fun _ => rfl, rfl, wi⟩
              | 13, _ =>
                refine steps_of rfl ?_
                intro L aq wq hL hd st wi
                obtain ⟨u11, e11, V11⟩ := st.val 11 _ _ rfl rfl (hd ⟨11, .data⟩ (by simp) rfl)
                obtain rfl : undef = u11 := V11.symm
                obtain ⟨u12, e12, V12⟩ := st.val 12 _ _ rfl rfl (hd ⟨12, .data⟩ (by simp) rfl)
                obtain rfl : undef = u12 := V12.symm
                obtain ⟨u6, e6, V6⟩ := st.val 6 _ _ rfl rfl (hd ⟨6, .guard⟩ (by simp) rfl)
                obtain rfl : .bool true = u6 := V6.symm
                exact opTo_not (by simp [Region.wanted, yielded, e6]) ⟨fun _ => rfl, rfl, wi⟩
              | 14, _ =>
                refine steps_of rfl ?_
                intro L aq wq hL hd st wi
                obtain ⟨u6, e6, V6⟩ := st.val 6 _ _ rfl rfl (hd ⟨6, .data⟩ (by simp) rfl)
                obtain rfl : .bool true = u6 := V6.symm
                obtain ⟨u13, e13, V13⟩ := st.val 13 _ _ rfl rfl (hd ⟨13, .data⟩ (by simp) rfl)
                obtain rfl : undef = u13 := V13.symm
                exact opTo_val (v := .bool true) rfl (by simp [go_sem, Act.eval, e6, e13]) ⟨(fun h => by cases h), rfl, wi⟩
              | 15, _ =>
                refine steps_of rfl ?_
                intro L aq wq hL hd st wi
                obtain ⟨u14, e14, V14⟩ := st.val 14 _ _ rfl rfl (hd ⟨14, .data⟩ (by simp) rfl)
                obtain rfl : .bool true = u14 := V14.symm
                exact opTo_val (v := .bool true) rfl (ex_move (.inl rfl) (eval_tmp e14)) ⟨(fun h => by cases h), rfl, wi⟩
              | 16, _ =>
                refine steps_of rfl ?_
                intro L aq wq hL hd st wi
                have o5 := st.outside (t := 5) rfl (v := .int .i64 (k : Int)) rfl
                obtain ⟨u15, e15, V15⟩ := st.val 15 _ _ rfl rfl (hd ⟨15, .guard⟩ (by simp) rfl)
                obtain rfl : .bool true = u15 := V15.symm
                exact opTo_not (by simp [Region.wanted, yielded, e15]) ⟨fun _ => rfl, rfl, wi⟩
              | 17, _ =>
                refine steps_of rfl ?_
                intro L aq wq hL hd st wi
                obtain ⟨u16, e16, V16⟩ := st.val 16 _ _ rfl rfl (hd ⟨16, .data⟩ (by simp) rfl)
                obtain rfl : undef = u16 := V16.symm
                obtain ⟨u15, e15, V15⟩ := st.val 15 _ _ rfl rfl (hd ⟨15, .guard⟩ (by simp) rfl)
                obtain rfl : .bool true = u15 := V15.symm
                exact opTo_not (by simp [Region.wanted, yielded, e15]) ⟨fun _ => rfl, rfl, wi⟩
              | 18, _ =>
                refine steps_of rfl ?_
                intro L aq wq hL hd st wi
                obtain ⟨u17, e17, V17⟩ := st.val 17 _ _ rfl rfl (hd ⟨17, .data⟩ (by simp) rfl)
                obtain rfl : undef = u17 := V17.symm
                obtain ⟨u15, e15, V15⟩ := st.val 15 _ _ rfl rfl (hd ⟨15, .chain⟩ (by simp) rfl)
                obtain rfl : .bool true = u15 := V15.symm
                exact opTo_not (by simp [Region.wanted, yielded, e15]) ⟨fun _ => rfl, rfl, wi⟩
              | 19, _ =>
                refine steps_of rfl ?_
                intro L aq wq hL hd st wi
                have o1 := st.outside (t := 1) rfl (v := .pointer (some ⟨db, 0, none⟩)) rfl
                obtain ⟨u18, e18, V18⟩ := st.val 18 _ _ rfl rfl (hd ⟨18, .guard⟩ (by simp) rfl)
                obtain rfl : undef = u18 := V18.symm
                exact opTo_not (by simp [Region.wanted, yielded, undef, e18]) ⟨fun _ => rfl, rfl, wi⟩
              | 20, _ =>
                refine steps_of rfl ?_
                intro L aq wq hL hd st wi
                obtain ⟨u19, e19, V19⟩ := st.val 19 _ _ rfl rfl (hd ⟨19, .data⟩ (by simp) rfl)
                obtain rfl : undef = u19 := V19.symm
                obtain ⟨u18, e18, V18⟩ := st.val 18 _ _ rfl rfl (hd ⟨18, .guard⟩ (by simp) rfl)
                obtain rfl : undef = u18 := V18.symm
                exact opTo_not (by simp [Region.wanted, yielded, undef, e18]) ⟨fun _ => rfl, rfl, wi⟩
              | 21, _ =>
                refine steps_of rfl ?_
                intro L aq wq hL hd st wi
                have o5 := st.outside (t := 5) rfl (v := .int .i64 (k : Int)) rfl
                obtain ⟨u18, e18, V18⟩ := st.val 18 _ _ rfl rfl (hd ⟨18, .guard⟩ (by simp) rfl)
                obtain rfl : undef = u18 := V18.symm
                exact opTo_not (by simp [Region.wanted, yielded, undef, e18]) ⟨fun _ => rfl, rfl, wi⟩
              | 22, _ =>
                refine steps_of rfl ?_
                intro L aq wq hL hd st wi
                obtain ⟨u21, e21, V21⟩ := st.val 21 _ _ rfl rfl (hd ⟨21, .data⟩ (by simp) rfl)
                obtain rfl : undef = u21 := V21.symm
                obtain ⟨u18, e18, V18⟩ := st.val 18 _ _ rfl rfl (hd ⟨18, .guard⟩ (by simp) rfl)
                obtain rfl : undef = u18 := V18.symm
                exact opTo_not (by simp [Region.wanted, yielded, undef, e18]) ⟨fun _ => rfl, rfl, wi⟩
              | 23, _ =>
                refine steps_of rfl ?_
                intro L aq wq hL hd st wi
                obtain ⟨u20, e20, V20⟩ := st.val 20 _ _ rfl rfl (hd ⟨20, .data⟩ (by simp) rfl)
                obtain rfl : undef = u20 := V20.symm
                obtain ⟨u22, e22, V22⟩ := st.val 22 _ _ rfl rfl (hd ⟨22, .data⟩ (by simp) rfl)
                obtain rfl : undef = u22 := V22.symm
                obtain ⟨u18, e18, V18⟩ := st.val 18 _ _ rfl rfl (hd ⟨18, .guard⟩ (by simp) rfl)
                obtain rfl : undef = u18 := V18.symm
                exact opTo_not (by simp [Region.wanted, yielded, undef, e18]) ⟨fun _ => rfl, rfl, wi⟩
              | 24, _ =>
                refine steps_of rfl ?_
                intro L aq wq hL hd st wi
                obtain ⟨u23, e23, V23⟩ := st.val 23 _ _ rfl rfl (hd ⟨23, .data⟩ (by simp) rfl)
                obtain rfl : undef = u23 := V23.symm
                obtain ⟨u18, e18, V18⟩ := st.val 18 _ _ rfl rfl (hd ⟨18, .guard⟩ (by simp) rfl)
                obtain rfl : undef = u18 := V18.symm
                exact opTo_not (by simp [Region.wanted, yielded, undef, e18]) ⟨fun _ => rfl, rfl, wi⟩
              | 25, _ =>
                refine steps_of rfl ?_
                intro L aq wq hL hd st wi
                have o1 := st.outside (t := 1) rfl (v := .pointer (some ⟨db, 0, none⟩)) rfl
                obtain ⟨u18, e18, V18⟩ := st.val 18 _ _ rfl rfl (hd ⟨18, .guard⟩ (by simp) rfl)
                obtain rfl : undef = u18 := V18.symm
                exact opTo_not (by simp [Region.wanted, yielded, undef, e18]) ⟨fun _ => rfl, rfl, wi⟩
              | 26, _ =>
                refine steps_of rfl ?_
                intro L aq wq hL hd st wi
                obtain ⟨u25, e25, V25⟩ := st.val 25 _ _ rfl rfl (hd ⟨25, .data⟩ (by simp) rfl)
                obtain rfl : undef = u25 := V25.symm
                obtain ⟨u18, e18, V18⟩ := st.val 18 _ _ rfl rfl (hd ⟨18, .guard⟩ (by simp) rfl)
                obtain rfl : undef = u18 := V18.symm
                exact opTo_not (by simp [Region.wanted, yielded, undef, e18]) ⟨fun _ => rfl, rfl, wi⟩
              | 27, _ =>
                refine steps_of rfl ?_
                intro L aq wq hL hd st wi
                have o5 := st.outside (t := 5) rfl (v := .int .i64 (k : Int)) rfl
                obtain ⟨u18, e18, V18⟩ := st.val 18 _ _ rfl rfl (hd ⟨18, .guard⟩ (by simp) rfl)
                obtain rfl : undef = u18 := V18.symm
                exact opTo_not (by simp [Region.wanted, yielded, undef, e18]) ⟨fun _ => rfl, rfl, wi⟩
              | 28, _ =>
                refine steps_of rfl ?_
                intro L aq wq hL hd st wi
                obtain ⟨u26, e26, V26⟩ := st.val 26 _ _ rfl rfl (hd ⟨26, .data⟩ (by simp) rfl)
                obtain rfl : undef = u26 := V26.symm
                obtain ⟨u27, e27, V27⟩ := st.val 27 _ _ rfl rfl (hd ⟨27, .data⟩ (by simp) rfl)
                obtain rfl : undef = u27 := V27.symm
                obtain ⟨u18, e18, V18⟩ := st.val 18 _ _ rfl rfl (hd ⟨18, .guard⟩ (by simp) rfl)
                obtain rfl : undef = u18 := V18.symm
                exact opTo_not (by simp [Region.wanted, yielded, undef, e18]) ⟨fun _ => rfl, rfl, wi⟩
              | 29, _ =>
                refine steps_of rfl ?_
                intro L aq wq hL hd st wi
                obtain ⟨u28, e28, V28⟩ := st.val 28 _ _ rfl rfl (hd ⟨28, .data⟩ (by simp) rfl)
                obtain rfl : undef = u28 := V28.symm
                obtain ⟨u18, e18, V18⟩ := st.val 18 _ _ rfl rfl (hd ⟨18, .guard⟩ (by simp) rfl)
                obtain rfl : undef = u18 := V18.symm
                exact opTo_not (by simp [Region.wanted, yielded, undef, e18]) ⟨fun _ => rfl, rfl, wi⟩
              | 30, _ =>
                refine steps_of rfl ?_
                intro L aq wq hL hd st wi
                obtain ⟨u24, e24, V24⟩ := st.val 24 _ _ rfl rfl (hd ⟨24, .data⟩ (by simp) rfl)
                obtain rfl : undef = u24 := V24.symm
                obtain ⟨u29, e29, V29⟩ := st.val 29 _ _ rfl rfl (hd ⟨29, .data⟩ (by simp) rfl)
                obtain rfl : undef = u29 := V29.symm
                obtain ⟨u18, e18, V18⟩ := st.val 18 _ _ rfl rfl (hd ⟨18, .guard⟩ (by simp) rfl)
                obtain rfl : undef = u18 := V18.symm
                exact opTo_not (by simp [Region.wanted, yielded, undef, e18]) ⟨fun _ => rfl, rfl, wi⟩
              | 31, _ =>
                refine steps_of rfl ?_
                intro L aq wq hL hd st wi
                obtain ⟨u18, e18, V18⟩ := st.val 18 _ _ rfl rfl (hd ⟨18, .data⟩ (by simp) rfl)
                obtain rfl : undef = u18 := V18.symm
                obtain ⟨u30, e30, V30⟩ := st.val 30 _ _ rfl rfl (hd ⟨30, .data⟩ (by simp) rfl)
                obtain rfl : undef = u30 := V30.symm
                obtain ⟨u15, e15, V15⟩ := st.val 15 _ _ rfl rfl (hd ⟨15, .guard⟩ (by simp) rfl)
                obtain rfl : .bool true = u15 := V15.symm
                exact opTo_not (by simp [Region.wanted, yielded, e15]) ⟨fun _ => rfl, rfl, wi⟩
              | 32, _ =>
                refine steps_of rfl ?_
                intro L aq wq hL hd st wi
                obtain ⟨u15, e15, V15⟩ := st.val 15 _ _ rfl rfl (hd ⟨15, .data⟩ (by simp) rfl)
                obtain rfl : .bool true = u15 := V15.symm
                obtain ⟨u31, e31, V31⟩ := st.val 31 _ _ rfl rfl (hd ⟨31, .data⟩ (by simp) rfl)
                obtain rfl : undef = u31 := V31.symm
                exact opTo_val (v := .bool true) rfl (by simp [go_sem, Act.eval, e15, e31]) ⟨(fun h => by cases h), rfl, wi⟩
              | (i + 33), h => omega
            case hendA =>
              intro vals w' hV hW
              have x32 : vals 32 = .bool true := hV 32 _ _ rfl rfl
              simp only [putAll, Act.put, List.setIfInBounds_toArray, List.set_cons_succ, List.set_cons_zero, x32]
              have HAW : RowKit.Hid (Agrees All wr w') := Lib.hid (by have := (Agrees.refl All wr).drew; rw [hW0] at this; exact this.trans hW)
              clear hV hW x32 hdr hbl hx0 HDR HBL HX0 hW0
              go_wp2_with fail
              go_ret
              exact ⟨congrArg (fun b => Ending.returned (Value.bool b)) (HFAIL.out (fun h => by have := HLOW.out; omega)).symm, HA1.out.trans (HW.out.2.trans HAW.out)⟩
          · have hd0 : decide (z < 0) = false := decide_eq_false h0
            by_cases h1 : (pn : Int) ≤ z
            · have hd1 : decide ((pn : Int) ≤ z) = true := decide_eq_true h1
              go_wp2_with fail
              have hdr := HDR.out
              have hbl := HBL.out
              have hx0 := HX0.out
              refine wp_region_plan (by kernel_rfl) ?hokB (by kernel_rfl) (vMayB w.heap.size b off' bn bc pn k z) (fun _ _ W => Agrees All W0 W) ?h0B (fun i hi => ?stepsB) ?hendB
              case hokB => kernel_rfl
              case h0B => exact fun vals => by rw [hW0]; exact Agrees.refl _ _
              case stepsB =>
                generalize w.heap.size = db at *
                generalize off' = off at *
                generalize bn = n at *
                generalize bc = cap at *
                have hi' : i < 33 := hi
                match i, hi' with
                | 0, _ =>
                  refine steps_of rfl ?_
                  intro L aq wq hL hd st wi
                  have o1 := st.outside (t := 1) rfl (v := .pointer (some ⟨db, 0, none⟩)) rfl
                  exact opTo_val (v := .pointer (some ⟨db, 2, none⟩)) rfl (by simp [go_sem, Act.eval, o1]) ⟨(fun h => by cases h), rfl, wi⟩
                | 1, _ =>
                  refine steps_of rfl ?_
                  intro L aq wq hL hd st wi
                  obtain ⟨u0, e0, V0⟩ := st.val 0 _ _ rfl rfl (hd ⟨0, .data⟩ (by simp) rfl)
                  obtain rfl : .pointer (some ⟨db, 2, none⟩) = u0 := V0.symm
                  exact opTo_val (v := .slice (some ⟨b, off, none⟩) n cap) rfl (ex_load1 (ty := 35) rfl oneIntsL (eval_tmp e0) (by rw [cell_of_row _ _ _ _ _ _ ((wi.block _ (Array.getElem?_eq_some_iff.1 hdr).1 trivial).trans hdr)]; rfl)) ⟨(fun h => by cases h), rfl, wi⟩
                | 2, _ =>
                  refine steps_of rfl ?_
                  intro L aq wq hL hd st wi
                  have o5 := st.outside (t := 5) rfl (v := .int .i64 (k : Int)) rfl
                  exact opTo_val (v := .int .i64 (k : Int)) rfl (ex_move (.inl rfl) (eval_tmp o5)) ⟨(fun h => by cases h), rfl, wi⟩
                | 3, _ =>
                  refine steps_of rfl ?_
                  intro L aq wq hL hd st wi
                  obtain ⟨u1, e1, V1⟩ := st.val 1 _ _ rfl rfl (hd ⟨1, .data⟩ (by simp) rfl)
                  obtain rfl : .slice (some ⟨b, off, none⟩) n cap = u1 := V1.symm
                  obtain ⟨u2, e2, V2⟩ := st.val 2 _ _ rfl rfl (hd ⟨2, .data⟩ (by simp) rfl)
                  obtain rfl : .int .i64 (k : Int) = u2 := V2.symm
                  exact opTo_val (v := .pointer (some ⟨b, off + k * 1, none⟩)) rfl (ex_idx rfl Try.underlying35 oneInt.2 b off n cap k (eval_tmp e1) (eval_tmp e2) (by omega)) ⟨(fun h => by cases h), rfl, wi⟩
                | 4, _ =>
                  refine steps_of rfl ?_
                  intro L aq wq hL hd st wi
                  obtain ⟨u3, e3, V3⟩ := st.val 3 _ _ rfl rfl (hd ⟨3, .data⟩ (by simp) rfl)
                  obtain rfl : .pointer (some ⟨b, off + k * 1, none⟩) = u3 := V3.symm
                  exact opTo_val (v := .int .i64 z) rfl (ex_load1 (ty := 3) rfl oneInt (eval_tmp e3) ((wi.cell (p := ⟨b, off + k * 1, none⟩) hbl trivial).trans hx0)) ⟨(fun h => by cases h), rfl, wi⟩
                | 5, _ =>
                  refine steps_of rfl ?_
                  intro L aq wq hL hd st wi
                  obtain ⟨u4, e4, V4⟩ := st.val 4 _ _ rfl rfl (hd ⟨4, .data⟩ (by simp) rfl)
                  obtain rfl : .int .i64 z = u4 := V4.symm
                  exact opTo_val (v := .bool false) rfl (by simp [go_sem, Act.eval, e4, hd0]) ⟨(fun h => by cases h), rfl, wi⟩
                | 6, _ =>
                  refine steps_of rfl ?_
                  intro L aq wq hL hd st wi
                  obtain ⟨u5, e5, V5⟩ := st.val 5 _ _ rfl rfl (hd ⟨5, .data⟩ (by simp) rfl)
                  obtain rfl : .bool false = u5 := V5.symm
                  exact opTo_val (v := .bool false) rfl (ex_move (.inl rfl) (eval_tmp e5)) ⟨(fun h => by cases h), rfl, wi⟩
                | 7, _ =>
                  refine steps_of rfl ?_
                  intro L aq wq hL hd st wi
                  have o1 := st.outside (t := 1) rfl (v := .pointer (some ⟨db, 0, none⟩)) rfl
                  obtain ⟨u6, e6, V6⟩ := st.val 6 _ _ rfl rfl (hd ⟨6, .guard⟩ (by simp) rfl)
                  obtain rfl : .bool false = u6 := V6.symm
                  exact opTo_val (v := .pointer (some ⟨db, 2, none⟩)) (by simp [Region.wanted, yielded, e6]) (by simp [go_sem, Act.eval, o1]) ⟨(fun h => by cases h), rfl, wi⟩
                | 8, _ =>
                  refine steps_of rfl ?_
                  intro L aq wq hL hd st wi
                  obtain ⟨u7, e7, V7⟩ := st.val 7 _ _ rfl rfl (hd ⟨7, .data⟩ (by simp) rfl)
                  obtain rfl : .pointer (some ⟨db, 2, none⟩) = u7 := V7.symm
                  obtain ⟨u6, e6, V6⟩ := st.val 6 _ _ rfl rfl (hd ⟨6, .guard⟩ (by simp) rfl)
                  obtain rfl : .bool false = u6 := V6.symm
                  exact opTo_val (v := .slice (some ⟨b, off, none⟩) n cap) (by simp [Region.wanted, yielded, e6]) (ex_load1 (ty := 35) rfl oneIntsL (eval_tmp e7) (by rw [cell_of_row _ _ _ _ _ _ ((wi.block _ (Array.getElem?_eq_some_iff.1 hdr).1 trivial).trans hdr)]; rfl)) ⟨(fun h => by cases h), rfl, wi⟩
                | 9, _ =>
                  refine steps_of rfl ?_
                  intro L aq wq hL hd st wi
                  have o5 := st.outside (t := 5) rfl (v := .int .i64 (k : Int)) rfl
                  obtain ⟨u6, e6, V6⟩ := st.val 6 _ _ rfl rfl (hd ⟨6, .guard⟩ (by simp) rfl)
                  obtain rfl : .bool false = u6 := V6.symm
                  exact opTo_val (v := .int .i64 (k : Int)) (by simp [Region.wanted, yielded, e6]) (ex_move (.inl rfl) (eval_tmp o5)) ⟨(fun h => by cases h), rfl, wi⟩
                | 10, _ =>
                  refine steps_of rfl ?_
                  intro L aq wq hL hd st wi
                  obtain ⟨u8, e8, V8⟩ := st.val 8 _ _ rfl rfl (hd ⟨8, .data⟩ (by simp) rfl)
                  obtain rfl : .slice (some ⟨b, off, none⟩) n cap = u8 := V8.symm
                  obtain ⟨u9, e9, V9⟩ := st.val 9 _ _ rfl rfl (hd ⟨9, .data⟩ (by simp) rfl)
                  obtain rfl : .int .i64 (k : Int) = u9 := V9.symm
                  obtain ⟨u6, e6, V6⟩ := st.val 6 _ _ rfl rfl (hd ⟨6, .guard⟩ (by simp) rfl)
                  obtain rfl : .bool false = u6 := V6.symm
                  exact opTo_val (v := .pointer (some ⟨b, off + k * 1, none⟩)) (by simp [Region.wanted, yielded, e6]) (ex_idx rfl Try.underlying35 oneInt.2 b off n cap k (eval_tmp e8) (eval_tmp e9) (by omega)) ⟨(fun h => by cases h), rfl, wi⟩
                | 11, _ =>
                  refine steps_of rfl ?_
                  intro L aq wq hL hd st wi
                  obtain ⟨u10, e10, V10⟩ := st.val 10 _ _ rfl rfl (hd ⟨10, .data⟩ (by simp) rfl)
                  obtain rfl : .pointer (some ⟨b, off + k * 1, none⟩) = u10 := V10.symm
                  obtain ⟨u6, e6, V6⟩ := st.val 6 _ _ rfl rfl (hd ⟨6, .guard⟩ (by simp) rfl)
                  obtain rfl : .bool false = u6 := V6.symm
                  exact opTo_val (v := .int .i64 z) (by simp [Region.wanted, yielded, e6]) (ex_load1 (ty := 3) rfl oneInt (eval_tmp e10) ((wi.cell (p := ⟨b, off + k * 1, none⟩) hbl trivial).trans hx0)) ⟨(fun h => by cases h), rfl, wi⟩
                | 12, _ =>
                  refine steps_of rfl ?_
                  intro L aq wq hL hd st wi
                  have o3 := st.outside (t := 3) rfl (v := .int .i64 (pn : Int)) rfl
                  obtain ⟨u6, e6, V6⟩ := st.val 6 _ _ rfl rfl (hd ⟨6, .guard⟩ (by simp) rfl)
                  obtain rfl : .bool false = u6 := V6.symm
                  exact opTo_val (v := .int .i64 (pn : Int)) (by simp [Region.wanted, yielded, e6]) (ex_move (.inl rfl) (eval_tmp o3)) ⟨(fun h => by cases h), rfl, wi⟩
                | 13, _ =>
                  refine steps_of rfl ?_
                  intro L aq wq hL hd st wi
                  obtain ⟨u11, e11, V11⟩ := st.val 11 _ _ rfl rfl (hd ⟨11, .data⟩ (by simp) rfl)
                  obtain rfl : .int .i64 z = u11 := V11.symm
                  obtain ⟨u12, e12, V12⟩ := st.val 12 _ _ rfl rfl (hd ⟨12, .data⟩ (by simp) rfl)
                  obtain rfl : .int .i64 (pn : Int) = u12 := V12.symm
                  obtain ⟨u6, e6, V6⟩ := st.val 6 _ _ rfl rfl (hd ⟨6, .guard⟩ (by simp) rfl)
                  obtain rfl : .bool false = u6 := V6.symm
                  exact opTo_val (v := .bool true) (by simp [Region.wanted, yielded, e6]) (by simp [go_sem, Act.eval, e11, e12, hd1]) ⟨(fun h => by cases h), rfl, wi⟩
                | 14, _ =>
                  refine steps_of rfl ?_
                  intro L aq wq hL hd st wi
                  obtain ⟨u6, e6, V6⟩ := st.val 6 _ _ rfl rfl (hd ⟨6, .data⟩ (by simp) rfl)
                  obtain rfl : .bool false = u6 := V6.symm
                  obtain ⟨u13, e13, V13⟩ := st.val 13 _ _ rfl rfl (hd ⟨13, .data⟩ (by simp) rfl)
                  obtain rfl : .bool true = u13 := V13.symm
                  exact opTo_val (v := .bool true) rfl (by simp [go_sem, Act.eval, e6, e13]) ⟨(fun h => by cases h), rfl, wi⟩
                | 15, _ =>
                  refine steps_of rfl ?_
                  intro L aq wq hL hd st wi
                  obtain ⟨u14, e14, V14⟩ := st.val 14 _ _ rfl rfl (hd ⟨14, .data⟩ (by simp) rfl)
                  obtain rfl : .bool true = u14 := V14.symm
                  exact opTo_val (v := .bool true) rfl (ex_move (.inl rfl) (eval_tmp e14)) ⟨(fun h => by cases h), rfl, wi⟩
                | 16, _ =>
                  refine steps_of rfl ?_
                  intro L aq wq hL hd st wi
                  have o5 := st.outside (t := 5) rfl (v := .int .i64 (k : Int)) rfl
                  obtain ⟨u15, e15, V15⟩ := st.val 15 _ _ rfl rfl (hd ⟨15, .guard⟩ (by simp) rfl)
                  obtain rfl : .bool true = u15 := V15.symm
                  exact opTo_not (by simp [Region.wanted, yielded, e15]) ⟨fun _ => rfl, rfl, wi⟩
                | 17, _ =>
                  refine steps_of rfl ?_
                  intro L aq wq hL hd st wi
                  obtain ⟨u16, e16, V16⟩ := st.val 16 _ _ rfl rfl (hd ⟨16, .data⟩ (by simp) rfl)
                  obtain rfl : undef = u16 := V16.symm
                  obtain ⟨u15, e15, V15⟩ := st.val 15 _ _ rfl rfl (hd ⟨15, .guard⟩ (by simp) rfl)
                  obtain rfl : .bool true = u15 := V15.symm
                  exact opTo_not (by simp [Region.wanted, yielded, e15]) ⟨fun _ => rfl, rfl, wi⟩
                | 18, _ =>
                  refine steps_of rfl ?_
                  intro L aq wq hL hd st wi
                  obtain ⟨u17, e17, V17⟩ := st.val 17 _ _ rfl rfl (hd ⟨17, .data⟩ (by simp) rfl)
                  obtain rfl : undef = u17 := V17.symm
                  obtain ⟨u15, e15, V15⟩ := st.val 15 _ _ rfl rfl (hd ⟨15, .chain⟩ (by simp) rfl)
                  obtain rfl : .bool true = u15 := V15.symm
                  exact opTo_not (by simp [Region.wanted, yielded, e15]) ⟨fun _ => rfl, rfl, wi⟩
                | 19, _ =>
                  refine steps_of rfl ?_
                  intro L aq wq hL hd st wi
                  have o1 := st.outside (t := 1) rfl (v := .pointer (some ⟨db, 0, none⟩)) rfl
                  obtain ⟨u18, e18, V18⟩ := st.val 18 _ _ rfl rfl (hd ⟨18, .guard⟩ (by simp) rfl)
                  obtain rfl : undef = u18 := V18.symm
                  exact opTo_not (by simp [Region.wanted, yielded, undef, e18]) ⟨fun _ => rfl, rfl, wi⟩
                | 20, _ =>
                  refine steps_of rfl ?_
                  intro L aq wq hL hd st wi
                  obtain ⟨u19, e19, V19⟩ := st.val 19 _ _ rfl rfl (hd ⟨19, .data⟩ (by simp) rfl)
                  obtain rfl : undef = u19 := V19.symm
                  obtain ⟨u18, e18, V18⟩ := st.val 18 _ _ rfl rfl (hd ⟨18, .guard⟩ (by simp) rfl)
                  obtain rfl : undef = u18 := V18.symm
                  exact opTo_not (by simp [Region.wanted, yielded, undef, e18]) ⟨fun _ => rfl, rfl, wi⟩
                | 21, _ =>
                  refine steps_of rfl ?_
                  intro L aq wq hL hd st wi
                  have o5 := st.outside (t := 5) rfl (v := .int .i64 (k : Int)) rfl
                  obtain ⟨u18, e18, V18⟩ := st.val 18 _ _ rfl rfl (hd ⟨18, .guard⟩ (by simp) rfl)
                  obtain rfl : undef = u18 := V18.symm
                  exact opTo_not (by simp [Region.wanted, yielded, undef, e18]) ⟨fun _ => rfl, rfl, wi⟩
                | 22, _ =>
                  refine steps_of rfl ?_
                  intro L aq wq hL hd st wi
                  obtain ⟨u21, e21, V21⟩ := st.val 21 _ _ rfl rfl (hd ⟨21, .data⟩ (by simp) rfl)
                  obtain rfl : undef = u21 := V21.symm
                  obtain ⟨u18, e18, V18⟩ := st.val 18 _ _ rfl rfl (hd ⟨18, .guard⟩ (by simp) rfl)
                  obtain rfl : undef = u18 := V18.symm
                  exact opTo_not (by simp [Region.wanted, yielded, undef, e18]) ⟨fun _ => rfl, rfl, wi⟩
                | 23, _ =>
                  refine steps_of rfl ?_
                  intro L aq wq hL hd st wi
                  obtain ⟨u20, e20, V20⟩ := st.val 20 _ _ rfl rfl (hd ⟨20, .data⟩ (by simp) rfl)
                  obtain rfl : undef = u20 := V20.symm
                  obtain ⟨u22, e22, V22⟩ := st.val 22 _ _ rfl rfl (hd ⟨22, .data⟩ (by simp) rfl)
                  obtain rfl : undef = u22 := V22.symm
                  obtain ⟨u18, e18, V18⟩ := st.val 18 _ _ rfl rfl (hd ⟨18, .guard⟩ (by simp) rfl)
                  obtain rfl : undef = u18 := V18.symm
                  exact opTo_not (by simp [Region.wanted, yielded, undef, e18]) ⟨fun _ => rfl, rfl, wi⟩
                | 24, _ =>
                  refine steps_of rfl ?_
                  intro L aq wq hL hd st wi
                  obtain ⟨u23, e23, V23⟩ := st.val 23 _ _ rfl rfl (hd ⟨23, .data⟩ (by simp) rfl)
                  obtain rfl : undef = u23 := V23.symm
                  obtain ⟨u18, e18, V18⟩ := st.val 18 _ _ rfl rfl (hd ⟨18, .guard⟩ (by simp) rfl)
                  obtain rfl : undef = u18 := V18.symm
                  exact opTo_not (by simp [Region.wanted, yielded, undef, e18]) ⟨fun _ => rfl, rfl, wi⟩
                | 25, _ =>
                  refine steps_of rfl ?_
                  intro L aq wq hL hd st wi
                  have o1 := st.outside (t := 1) rfl (v := .pointer (some ⟨db, 0, none⟩)) rfl
                  obtain ⟨u18, e18, V18⟩ := st.val 18 _ _ rfl rfl (hd ⟨18, .guard⟩ (by simp) rfl)
                  obtain rfl : undef = u18 := V18.symm
                  exact opTo_not (by simp [Region.wanted, yielded, undef, e18]) ⟨fun _ => rfl, rfl, wi⟩
                | 26, _ =>
                  refine steps_of rfl ?_
                  intro L aq wq hL hd st wi
                  obtain ⟨u25, e25, V25⟩ := st.val 25 _ _ rfl rfl (hd ⟨25, .data⟩ (by simp) rfl)
                  obtain rfl : undef = u25 := V25.symm
                  obtain ⟨u18, e18, V18⟩ := st.val 18 _ _ rfl rfl (hd ⟨18, .guard⟩ (by simp) rfl)
                  obtain rfl : undef = u18 := V18.symm
                  exact opTo_not (by simp [Region.wanted, yielded, undef, e18]) ⟨fun _ => rfl, rfl, wi⟩
                | 27, _ =>
                  refine steps_of rfl ?_
                  intro L aq wq hL hd st wi
                  have o5 := st.outside (t := 5) rfl (v := .int .i64 (k : Int)) rfl
                  obtain ⟨u18, e18, V18⟩ := st.val 18 _ _ rfl rfl (hd ⟨18, .guard⟩ (by simp) rfl)
                  obtain rfl : undef = u18 := V18.symm
                  exact opTo_not (by simp [Region.wanted, yielded, undef, e18]) ⟨fun _ => rfl, rfl, wi⟩
                | 28, _ =>
                  refine steps_of rfl ?_
                  intro L aq wq hL hd st wi
                  obtain ⟨u26, e26, V26⟩ := st.val 26 _ _ rfl rfl (hd ⟨26, .data⟩ (by simp) rfl)
                  obtain rfl : undef = u26 := V26.symm
                  obtain ⟨u27, e27, V27⟩ := st.val 27 _ _ rfl rfl (hd ⟨27, .data⟩ (by simp) rfl)
                  obtain rfl : undef = u27 := V27.symm
                  obtain ⟨u18, e18, V18⟩ := st.val 18 _ _ rfl rfl (hd ⟨18, .guard⟩ (by simp) rfl)
                  obtain rfl : undef = u18 := V18.symm
                  exact opTo_not (by simp [Region.wanted, yielded, undef, e18]) ⟨fun _ => rfl, rfl, wi⟩
                | 29, _ =>
                  refine steps_of rfl ?_
                  intro L aq wq hL hd st wi
                  obtain ⟨u28, e28, V28⟩ := st.val 28 _ _ rfl rfl (hd ⟨28, .data⟩ (by simp) rfl)
                  obtain rfl : undef = u28 := V28.symm
                  obtain ⟨u18, e18, V18⟩ := st.val 18 _ _ rfl rfl (hd ⟨18, .guard⟩ (by simp) rfl)
                  obtain rfl : undef = u18 := V18.symm
                  exact opTo_not (by simp [Region.wanted, yielded, undef, e18]) ⟨fun _ => rfl, rfl, wi⟩
                | 30, _ =>
                  refine steps_of rfl ?_
                  intro L aq wq hL hd st wi
                  obtain ⟨u24, e24, V24⟩ := st.val 24 _ _ rfl rfl (hd ⟨24, .data⟩ (by simp) rfl)
                  obtain rfl : undef = u24 := V24.symm
                  obtain ⟨u29, e29, V29⟩ := st.val 29 _ _ rfl rfl (hd ⟨29, .data⟩ (by simp) rfl)
                  obtain rfl : undef = u29 := V29.symm
                  obtain ⟨u18, e18, V18⟩ := st.val 18 _ _ rfl rfl (hd ⟨18, .guard⟩ (by simp) rfl)
                  obtain rfl : undef = u18 := V18.symm
                  exact opTo_not (by simp [Region.wanted, yielded, undef, e18]) ⟨fun _ => rfl, rfl, wi⟩
                | 31, _ =>
                  refine steps_of rfl ?_
                  intro L aq wq hL hd st wi
                  obtain ⟨u18, e18, V18⟩ := st.val 18 _ _ rfl rfl (hd ⟨18, .data⟩ (by simp) rfl)
                  obtain rfl : undef = u18 := V18.symm
                  obtain ⟨u30, e30, V30⟩ := st.val 30 _ _ rfl rfl (hd ⟨30, .data⟩ (by simp) rfl)
                  obtain rfl : undef = u30 := V30.symm
                  obtain ⟨u15, e15, V15⟩ := st.val 15 _ _ rfl rfl (hd ⟨15, .guard⟩ (by simp) rfl)
                  obtain rfl : .bool true = u15 := V15.symm
                  exact opTo_not (by simp [Region.wanted, yielded, e15]) ⟨fun _ => rfl, rfl, wi⟩
                | 32, _ =>
                  refine steps_of rfl ?_
                  intro L aq wq hL hd st wi
                  obtain ⟨u15, e15, V15⟩ := st.val 15 _ _ rfl rfl (hd ⟨15, .data⟩ (by simp) rfl)
                  obtain rfl : .bool true = u15 := V15.symm
                  obtain ⟨u31, e31, V31⟩ := st.val 31 _ _ rfl rfl (hd ⟨31, .data⟩ (by simp) rfl)
                  obtain rfl : undef = u31 := V31.symm
                  exact opTo_val (v := .bool true) rfl (by simp [go_sem, Act.eval, e15, e31]) ⟨(fun h => by cases h), rfl, wi⟩
                | (i + 33), h => omega
              case hendB =>
                intro vals w' hV hW
                have x32 : vals 32 = .bool true := hV 32 _ _ rfl rfl
                simp only [putAll, Act.put, List.setIfInBounds_toArray, List.set_cons_succ, List.set_cons_zero, x32]
                have HAW : RowKit.Hid (Agrees All wr w') := Lib.hid (by have := (Agrees.refl All wr).drew; rw [hW0] at this; exact this.trans hW)
                clear hV hW x32 hdr hbl hx0 HDR HBL HX0 hW0
                go_wp2_with fail
                go_ret
                exact ⟨congrArg (fun b => Ending.returned (Value.bool b)) (HFAIL.out (fun _ => by omega)).symm, HA1.out.trans (HW.out.2.trans HAW.out)⟩
            · have hd1 : decide ((pn : Int) ≤ z) = false := decide_eq_false h1
              by_cases h2 : 0 < k
              · have hd2 : decide (0 < k) = true := decide_eq_true h2
                obtain ⟨j, hj⟩ : ∃ j : Nat, k = j + 1 := ⟨k - 1, by omega⟩
                obtain ⟨y, hy⟩ : ∃ y, d.bad[j]? = some y := ⟨_, List.getElem?_eq_getElem (by rw [HBN.out]; omega)⟩
                obtain ⟨b', off2, he, _, _, hc1⟩ := CellsAt.elem (f := intL) (HV.out.bad.agrees HAG0.out fun _ h => h) (fun y hy => rfl) (by omega) hy
                cases he
                have hxp : W0.cell? ⟨b, off' + j * 1, none⟩ = some (.int .i64 y) := hc1 0 (by omega)
                have HJ := Lib.hid hj
                have hjn : j < bn := by omega
                have hsub : IntKind.i64.wrap ((k : Int) - 1) = (j : Int) := by rw [IntKind.wrap_i64]; omega
                have HLAST : RowKit.Hid ((d.bad.take k).getLastD (-1) = y) := by rw [hj]; exact take_last hy
                clear hc1 hy hj
                go_wp2_with fail
                have hdr := HDR.out
                have hbl := HBL.out
                have hx0 := HX0.out
                refine wp_region_plan (by kernel_rfl) ?hokD (by kernel_rfl) (vMayD w.heap.size b off' bn bc pn k j z y) (fun _ _ W => Agrees All W0 W) ?h0D (fun i hi => ?stepsD) ?hendD
                case hokD => kernel_rfl
                case h0D => exact fun vals => by rw [hW0]; exact Agrees.refl _ _
                case stepsD =>
                  generalize w.heap.size = db at *
                  generalize off' = off at *
                  generalize bn = n at *
                  generalize bc = cap at *
                  have hi' : i < 33 := hi
                  match i, hi' with
                  | 0, _ =>
                    refine steps_of rfl ?_
                    intro L aq wq hL hd st wi
                    have o1 := st.outside (t := 1) rfl (v := .pointer (some ⟨db, 0, none⟩)) rfl
                    exact opTo_val (v := .pointer (some ⟨db, 2, none⟩)) rfl (by simp [go_sem, Act.eval, o1]) ⟨(fun h => by cases h), rfl, wi⟩
                  | 1, _ =>
                    refine steps_of rfl ?_
                    intro L aq wq hL hd st wi
                    obtain ⟨u0, e0, V0⟩ := st.val 0 _ _ rfl rfl (hd ⟨0, .data⟩ (by simp) rfl)
                    obtain rfl : .pointer (some ⟨db, 2, none⟩) = u0 := V0.symm
                    exact opTo_val (v := .slice (some ⟨b, off, none⟩) n cap) rfl (ex_load1 (ty := 35) rfl oneIntsL (eval_tmp e0) (by rw [cell_of_row _ _ _ _ _ _ ((wi.block _ (Array.getElem?_eq_some_iff.1 hdr).1 trivial).trans hdr)]; rfl)) ⟨(fun h => by cases h), rfl, wi⟩
                  | 2, _ =>
                    refine steps_of rfl ?_
                    intro L aq wq hL hd st wi
                    have o5 := st.outside (t := 5) rfl (v := .int .i64 (k : Int)) rfl
                    exact opTo_val (v := .int .i64 (k : Int)) rfl (ex_move (.inl rfl) (eval_tmp o5)) ⟨(fun h => by cases h), rfl, wi⟩
                  | 3, _ =>
                    refine steps_of rfl ?_
                    intro L aq wq hL hd st wi
                    obtain ⟨u1, e1, V1⟩ := st.val 1 _ _ rfl rfl (hd ⟨1, .data⟩ (by simp) rfl)
                    obtain rfl : .slice (some ⟨b, off, none⟩) n cap = u1 := V1.symm
                    obtain ⟨u2, e2, V2⟩ := st.val 2 _ _ rfl rfl (hd ⟨2, .data⟩ (by simp) rfl)
                    obtain rfl : .int .i64 (k : Int) = u2 := V2.symm
                    exact opTo_val (v := .pointer (some ⟨b, off + k * 1, none⟩)) rfl (ex_idx rfl Try.underlying35 oneInt.2 b off n cap k (eval_tmp e1) (eval_tmp e2) (by omega)) ⟨(fun h => by cases h), rfl, wi⟩
                  | 4, _ =>
                    refine steps_of rfl ?_
                    intro L aq wq hL hd st wi
                    obtain ⟨u3, e3, V3⟩ := st.val 3 _ _ rfl rfl (hd ⟨3, .data⟩ (by simp) rfl)
                    obtain rfl : .pointer (some ⟨b, off + k * 1, none⟩) = u3 := V3.symm
                    exact opTo_val (v := .int .i64 z) rfl (ex_load1 (ty := 3) rfl oneInt (eval_tmp e3) ((wi.cell (p := ⟨b, off + k * 1, none⟩) hbl trivial).trans hx0)) ⟨(fun h => by cases h), rfl, wi⟩
                  | 5, _ =>
                    refine steps_of rfl ?_
                    intro L aq wq hL hd st wi
                    obtain ⟨u4, e4, V4⟩ := st.val 4 _ _ rfl rfl (hd ⟨4, .data⟩ (by simp) rfl)
                    obtain rfl : .int .i64 z = u4 := V4.symm
                    exact opTo_val (v := .bool false) rfl (by simp [go_sem, Act.eval, e4, hd0]) ⟨(fun h => by cases h), rfl, wi⟩
                  | 6, _ =>
                    refine steps_of rfl ?_
                    intro L aq wq hL hd st wi
                    obtain ⟨u5, e5, V5⟩ := st.val 5 _ _ rfl rfl (hd ⟨5, .data⟩ (by simp) rfl)
                    obtain rfl : .bool false = u5 := V5.symm
                    exact opTo_val (v := .bool false) rfl (ex_move (.inl rfl) (eval_tmp e5)) ⟨(fun h => by cases h), rfl, wi⟩
                  | 7, _ =>
                    refine steps_of rfl ?_
                    intro L aq wq hL hd st wi
                    have o1 := st.outside (t := 1) rfl (v := .pointer (some ⟨db, 0, none⟩)) rfl
                    obtain ⟨u6, e6, V6⟩ := st.val 6 _ _ rfl rfl (hd ⟨6, .guard⟩ (by simp) rfl)
                    obtain rfl : .bool false = u6 := V6.symm
                    exact opTo_val (v := .pointer (some ⟨db, 2, none⟩)) (by simp [Region.wanted, yielded, e6]) (by simp [go_sem, Act.eval, o1]) ⟨(fun h => by cases h), rfl, wi⟩
                  | 8, _ =>
                    refine steps_of rfl ?_
                    intro L aq wq hL hd st wi
                    obtain ⟨u7, e7, V7⟩ := st.val 7 _ _ rfl rfl (hd ⟨7, .data⟩ (by simp) rfl)
                    obtain rfl : .pointer (some ⟨db, 2, none⟩) = u7 := V7.symm
                    obtain ⟨u6, e6, V6⟩ := st.val 6 _ _ rfl rfl (hd ⟨6, .guard⟩ (by simp) rfl)
                    obtain rfl : .bool false = u6 := V6.symm
                    exact opTo_val (v := .slice (some ⟨b, off, none⟩) n cap) (by simp [Region.wanted, yielded, e6]) (ex_load1 (ty := 35) rfl oneIntsL (eval_tmp e7) (by rw [cell_of_row _ _ _ _ _ _ ((wi.block _ (Array.getElem?_eq_some_iff.1 hdr).1 trivial).trans hdr)]; rfl)) ⟨(fun h => by cases h), rfl, wi⟩
                  | 9, _ =>
                    refine steps_of rfl ?_
                    intro L aq wq hL hd st wi
                    have o5 := st.outside (t := 5) rfl (v := .int .i64 (k : Int)) rfl
                    obtain ⟨u6, e6, V6⟩ := st.val 6 _ _ rfl rfl (hd ⟨6, .guard⟩ (by simp) rfl)
                    obtain rfl : .bool false = u6 := V6.symm
                    exact opTo_val (v := .int .i64 (k : Int)) (by simp [Region.wanted, yielded, e6]) (ex_move (.inl rfl) (eval_tmp o5)) ⟨(fun h => by cases h), rfl, wi⟩
                  | 10, _ =>
                    refine steps_of rfl ?_
                    intro L aq wq hL hd st wi
                    obtain ⟨u8, e8, V8⟩ := st.val 8 _ _ rfl rfl (hd ⟨8, .data⟩ (by simp) rfl)
                    obtain rfl : .slice (some ⟨b, off, none⟩) n cap = u8 := V8.symm
                    obtain ⟨u9, e9, V9⟩ := st.val 9 _ _ rfl rfl (hd ⟨9, .data⟩ (by simp) rfl)
                    obtain rfl : .int .i64 (k : Int) = u9 := V9.symm
                    obtain ⟨u6, e6, V6⟩ := st.val 6 _ _ rfl rfl (hd ⟨6, .guard⟩ (by simp) rfl)
                    obtain rfl : .bool false = u6 := V6.symm
                    exact opTo_val (v := .pointer (some ⟨b, off + k * 1, none⟩)) (by simp [Region.wanted, yielded, e6]) (ex_idx rfl Try.underlying35 oneInt.2 b off n cap k (eval_tmp e8) (eval_tmp e9) (by omega)) ⟨(fun h => by cases h), rfl, wi⟩
                  | 11, _ =>
                    refine steps_of rfl ?_
                    intro L aq wq hL hd st wi
                    obtain ⟨u10, e10, V10⟩ := st.val 10 _ _ rfl rfl (hd ⟨10, .data⟩ (by simp) rfl)
                    obtain rfl : .pointer (some ⟨b, off + k * 1, none⟩) = u10 := V10.symm
                    obtain ⟨u6, e6, V6⟩ := st.val 6 _ _ rfl rfl (hd ⟨6, .guard⟩ (by simp) rfl)
                    obtain rfl : .bool false = u6 := V6.symm
                    exact opTo_val (v := .int .i64 z) (by simp [Region.wanted, yielded, e6]) (ex_load1 (ty := 3) rfl oneInt (eval_tmp e10) ((wi.cell (p := ⟨b, off + k * 1, none⟩) hbl trivial).trans hx0)) ⟨(fun h => by cases h), rfl, wi⟩
                  | 12, _ =>
                    refine steps_of rfl ?_
                    intro L aq wq hL hd st wi
                    have o3 := st.outside (t := 3) rfl (v := .int .i64 (pn : Int)) rfl
                    obtain ⟨u6, e6, V6⟩ := st.val 6 _ _ rfl rfl (hd ⟨6, .guard⟩ (by simp) rfl)
                    obtain rfl : .bool false = u6 := V6.symm
                    exact opTo_val (v := .int .i64 (pn : Int)) (by simp [Region.wanted, yielded, e6]) (ex_move (.inl rfl) (eval_tmp o3)) ⟨(fun h => by cases h), rfl, wi⟩
                  | 13, _ =>
                    refine steps_of rfl ?_
                    intro L aq wq hL hd st wi
                    obtain ⟨u11, e11, V11⟩ := st.val 11 _ _ rfl rfl (hd ⟨11, .data⟩ (by simp) rfl)
                    obtain rfl : .int .i64 z = u11 := V11.symm
                    obtain ⟨u12, e12, V12⟩ := st.val 12 _ _ rfl rfl (hd ⟨12, .data⟩ (by simp) rfl)
                    obtain rfl : .int .i64 (pn : Int) = u12 := V12.symm
                    obtain ⟨u6, e6, V6⟩ := st.val 6 _ _ rfl rfl (hd ⟨6, .guard⟩ (by simp) rfl)
                    obtain rfl : .bool false = u6 := V6.symm
                    exact opTo_val (v := .bool false) (by simp [Region.wanted, yielded, e6]) (by simp [go_sem, Act.eval, e11, e12, hd1]) ⟨(fun h => by cases h), rfl, wi⟩
                  | 14, _ =>
                    refine steps_of rfl ?_
                    intro L aq wq hL hd st wi
                    obtain ⟨u6, e6, V6⟩ := st.val 6 _ _ rfl rfl (hd ⟨6, .data⟩ (by simp) rfl)
                    obtain rfl : .bool false = u6 := V6.symm
                    obtain ⟨u13, e13, V13⟩ := st.val 13 _ _ rfl rfl (hd ⟨13, .data⟩ (by simp) rfl)
                    obtain rfl : .bool false = u13 := V13.symm
                    exact opTo_val (v := .bool false) rfl (by simp [go_sem, Act.eval, e6, e13]) ⟨(fun h => by cases h), rfl, wi⟩
                  | 15, _ =>
                    refine steps_of rfl ?_
                    intro L aq wq hL hd st wi
                    obtain ⟨u14, e14, V14⟩ := st.val 14 _ _ rfl rfl (hd ⟨14, .data⟩ (by simp) rfl)
                    obtain rfl : .bool false = u14 := V14.symm
                    exact opTo_val (v := .bool false) rfl (ex_move (.inl rfl) (eval_tmp e14)) ⟨(fun h => by cases h), rfl, wi⟩
                  | 16, _ =>
                    refine steps_of rfl ?_
                    intro L aq wq hL hd st wi
                    have o5 := st.outside (t := 5) rfl (v := .int .i64 (k : Int)) rfl
                    obtain ⟨u15, e15, V15⟩ := st.val 15 _ _ rfl rfl (hd ⟨15, .guard⟩ (by simp) rfl)
                    obtain rfl : .bool false = u15 := V15.symm
                    exact opTo_val (v := .int .i64 (k : Int)) (by simp [Region.wanted, yielded, e15]) (ex_move (.inl rfl) (eval_tmp o5)) ⟨(fun h => by cases h), rfl, wi⟩
                  | 17, _ =>
                    refine steps_of rfl ?_
                    intro L aq wq hL hd st wi
                    obtain ⟨u16, e16, V16⟩ := st.val 16 _ _ rfl rfl (hd ⟨16, .data⟩ (by simp) rfl)
                    obtain rfl : .int .i64 (k : Int) = u16 := V16.symm
                    obtain ⟨u15, e15, V15⟩ := st.val 15 _ _ rfl rfl (hd ⟨15, .guard⟩ (by simp) rfl)
                    obtain rfl : .bool false = u15 := V15.symm
                    exact opTo_val (v := .bool true) (by simp [Region.wanted, yielded, e15]) (by simp [go_sem, Act.eval, e16, hd2]) ⟨(fun h => by cases h), rfl, wi⟩
                  | 18, _ =>
                    refine steps_of rfl ?_
                    intro L aq wq hL hd st wi
                    obtain ⟨u17, e17, V17⟩ := st.val 17 _ _ rfl rfl (hd ⟨17, .data⟩ (by simp) rfl)
                    obtain rfl : .bool true = u17 := V17.symm
                    obtain ⟨u15, e15, V15⟩ := st.val 15 _ _ rfl rfl (hd ⟨15, .chain⟩ (by simp) rfl)
                    obtain rfl : .bool false = u15 := V15.symm
                    exact opTo_val (v := .bool true) (by simp [Region.wanted, yielded, e15]) (ex_move (.inl rfl) (eval_tmp e17)) ⟨(fun h => by cases h), rfl, wi⟩
                  | 19, _ =>
                    refine steps_of rfl ?_
                    intro L aq wq hL hd st wi
                    have o1 := st.outside (t := 1) rfl (v := .pointer (some ⟨db, 0, none⟩)) rfl
                    obtain ⟨u18, e18, V18⟩ := st.val 18 _ _ rfl rfl (hd ⟨18, .guard⟩ (by simp) rfl)
                    obtain rfl : .bool true = u18 := V18.symm
                    exact opTo_val (v := .pointer (some ⟨db, 2, none⟩)) (by simp [Region.wanted, yielded, e18]) (by simp [go_sem, Act.eval, o1]) ⟨(fun h => by cases h), rfl, wi⟩
                  | 20, _ =>
                    refine steps_of rfl ?_
                    intro L aq wq hL hd st wi
                    obtain ⟨u19, e19, V19⟩ := st.val 19 _ _ rfl rfl (hd ⟨19, .data⟩ (by simp) rfl)
                    obtain rfl : .pointer (some ⟨db, 2, none⟩) = u19 := V19.symm
                    obtain ⟨u18, e18, V18⟩ := st.val 18 _ _ rfl rfl (hd ⟨18, .guard⟩ (by simp) rfl)
                    obtain rfl : .bool true = u18 := V18.symm
                    exact opTo_val (v := .slice (some ⟨b, off, none⟩) n cap) (by simp [Region.wanted, yielded, e18]) (ex_load1 (ty := 35) rfl oneIntsL (eval_tmp e19) (by rw [cell_of_row _ _ _ _ _ _ ((wi.block _ (Array.getElem?_eq_some_iff.1 hdr).1 trivial).trans hdr)]; rfl)) ⟨(fun h => by cases h), rfl, wi⟩
                  | 21, _ =>
                    refine steps_of rfl ?_
                    intro L aq wq hL hd st wi
                    have o5 := st.outside (t := 5) rfl (v := .int .i64 (k : Int)) rfl
                    obtain ⟨u18, e18, V18⟩ := st.val 18 _ _ rfl rfl (hd ⟨18, .guard⟩ (by simp) rfl)
                    obtain rfl : .bool true = u18 := V18.symm
                    exact opTo_val (v := .int .i64 (k : Int)) (by simp [Region.wanted, yielded, e18]) (ex_move (.inl rfl) (eval_tmp o5)) ⟨(fun h => by cases h), rfl, wi⟩
                  | 22, _ =>
                    refine steps_of rfl ?_
                    intro L aq wq hL hd st wi
                    obtain ⟨u21, e21, V21⟩ := st.val 21 _ _ rfl rfl (hd ⟨21, .data⟩ (by simp) rfl)
                    obtain rfl : .int .i64 (k : Int) = u21 := V21.symm
                    obtain ⟨u18, e18, V18⟩ := st.val 18 _ _ rfl rfl (hd ⟨18, .guard⟩ (by simp) rfl)
                    obtain rfl : .bool true = u18 := V18.symm
                    exact opTo_val (v := .int .i64 (j : Int)) (by simp [Region.wanted, yielded, e18]) (by simp [go_sem, Act.eval, e21, hsub]) ⟨(fun h => by cases h), rfl, wi⟩
                  | 23, _ =>
                    refine steps_of rfl ?_
                    intro L aq wq hL hd st wi
                    obtain ⟨u20, e20, V20⟩ := st.val 20 _ _ rfl rfl (hd ⟨20, .data⟩ (by simp) rfl)
                    obtain rfl : .slice (some ⟨b, off, none⟩) n cap = u20 := V20.symm
                    obtain ⟨u22, e22, V22⟩ := st.val 22 _ _ rfl rfl (hd ⟨22, .data⟩ (by simp) rfl)
                    obtain rfl : .int .i64 (j : Int) = u22 := V22.symm
                    obtain ⟨u18, e18, V18⟩ := st.val 18 _ _ rfl rfl (hd ⟨18, .guard⟩ (by simp) rfl)
                    obtain rfl : .bool true = u18 := V18.symm
                    exact opTo_val (v := .pointer (some ⟨b, off + j * 1, none⟩)) (by simp [Region.wanted, yielded, e18]) (ex_idx rfl Try.underlying35 oneInt.2 b off n cap j (eval_tmp e20) (eval_tmp e22) (by omega)) ⟨(fun h => by cases h), rfl, wi⟩
                  | 24, _ =>
                    refine steps_of rfl ?_
                    intro L aq wq hL hd st wi
                    obtain ⟨u23, e23, V23⟩ := st.val 23 _ _ rfl rfl (hd ⟨23, .data⟩ (by simp) rfl)
                    obtain rfl : .pointer (some ⟨b, off + j * 1, none⟩) = u23 := V23.symm
                    obtain ⟨u18, e18, V18⟩ := st.val 18 _ _ rfl rfl (hd ⟨18, .guard⟩ (by simp) rfl)
                    obtain rfl : .bool true = u18 := V18.symm
                    exact opTo_val (v := .int .i64 y) (by simp [Region.wanted, yielded, e18]) (ex_load1 (ty := 3) rfl oneInt (eval_tmp e23) ((wi.cell (p := ⟨b, off + j * 1, none⟩) hbl trivial).trans hxp)) ⟨(fun h => by cases h), rfl, wi⟩
                  | 25, _ =>
                    refine steps_of rfl ?_
                    intro L aq wq hL hd st wi
                    have o1 := st.outside (t := 1) rfl (v := .pointer (some ⟨db, 0, none⟩)) rfl
                    obtain ⟨u18, e18, V18⟩ := st.val 18 _ _ rfl rfl (hd ⟨18, .guard⟩ (by simp) rfl)
                    obtain rfl : .bool true = u18 := V18.symm
                    exact opTo_val (v := .pointer (some ⟨db, 2, none⟩)) (by simp [Region.wanted, yielded, e18]) (by simp [go_sem, Act.eval, o1]) ⟨(fun h => by cases h), rfl, wi⟩
                  | 26, _ =>
                    refine steps_of rfl ?_
                    intro L aq wq hL hd st wi
                    obtain ⟨u25, e25, V25⟩ := st.val 25 _ _ rfl rfl (hd ⟨25, .data⟩ (by simp) rfl)
                    obtain rfl : .pointer (some ⟨db, 2, none⟩) = u25 := V25.symm
                    obtain ⟨u18, e18, V18⟩ := st.val 18 _ _ rfl rfl (hd ⟨18, .guard⟩ (by simp) rfl)
                    obtain rfl : .bool true = u18 := V18.symm
                    exact opTo_val (v := .slice (some ⟨b, off, none⟩) n cap) (by simp [Region.wanted, yielded, e18]) (ex_load1 (ty := 35) rfl oneIntsL (eval_tmp e25) (by rw [cell_of_row _ _ _ _ _ _ ((wi.block _ (Array.getElem?_eq_some_iff.1 hdr).1 trivial).trans hdr)]; rfl)) ⟨(fun h => by cases h), rfl, wi⟩
                  | 27, _ =>
                    refine steps_of rfl ?_
                    intro L aq wq hL hd st wi
                    have o5 := st.outside (t := 5) rfl (v := .int .i64 (k : Int)) rfl
                    obtain ⟨u18, e18, V18⟩ := st.val 18 _ _ rfl rfl (hd ⟨18, .guard⟩ (by simp) rfl)
                    obtain rfl : .bool true = u18 := V18.symm
                    exact opTo_val (v := .int .i64 (k : Int)) (by simp [Region.wanted, yielded, e18]) (ex_move (.inl rfl) (eval_tmp o5)) ⟨(fun h => by cases h), rfl, wi⟩
                  | 28, _ =>
                    refine steps_of rfl ?_
                    intro L aq wq hL hd st wi
                    obtain ⟨u26, e26, V26⟩ := st.val 26 _ _ rfl rfl (hd ⟨26, .data⟩ (by simp) rfl)
                    obtain rfl : .slice (some ⟨b, off, none⟩) n cap = u26 := V26.symm
                    obtain ⟨u27, e27, V27⟩ := st.val 27 _ _ rfl rfl (hd ⟨27, .data⟩ (by simp) rfl)
                    obtain rfl : .int .i64 (k : Int) = u27 := V27.symm
                    obtain ⟨u18, e18, V18⟩ := st.val 18 _ _ rfl rfl (hd ⟨18, .guard⟩ (by simp) rfl)
                    obtain rfl : .bool true = u18 := V18.symm
                    exact opTo_val (v := .pointer (some ⟨b, off + k * 1, none⟩)) (by simp [Region.wanted, yielded, e18]) (ex_idx rfl Try.underlying35 oneInt.2 b off n cap k (eval_tmp e26) (eval_tmp e27) (by omega)) ⟨(fun h => by cases h), rfl, wi⟩
                  | 29, _ =>
                    refine steps_of rfl ?_
                    intro L aq wq hL hd st wi
                    obtain ⟨u28, e28, V28⟩ := st.val 28 _ _ rfl rfl (hd ⟨28, .data⟩ (by simp) rfl)
                    obtain rfl : .pointer (some ⟨b, off + k * 1, none⟩) = u28 := V28.symm
                    obtain ⟨u18, e18, V18⟩ := st.val 18 _ _ rfl rfl (hd ⟨18, .guard⟩ (by simp) rfl)
                    obtain rfl : .bool true = u18 := V18.symm
                    exact opTo_val (v := .int .i64 z) (by simp [Region.wanted, yielded, e18]) (ex_load1 (ty := 3) rfl oneInt (eval_tmp e28) ((wi.cell (p := ⟨b, off + k * 1, none⟩) hbl trivial).trans hx0)) ⟨(fun h => by cases h), rfl, wi⟩
                  | 30, _ =>
                    refine steps_of rfl ?_
                    intro L aq wq hL hd st wi
                    obtain ⟨u24, e24, V24⟩ := st.val 24 _ _ rfl rfl (hd ⟨24, .data⟩ (by simp) rfl)
                    obtain rfl : .int .i64 y = u24 := V24.symm
                    obtain ⟨u29, e29, V29⟩ := st.val 29 _ _ rfl rfl (hd ⟨29, .data⟩ (by simp) rfl)
                    obtain rfl : .int .i64 z = u29 := V29.symm
                    obtain ⟨u18, e18, V18⟩ := st.val 18 _ _ rfl rfl (hd ⟨18, .guard⟩ (by simp) rfl)
                    obtain rfl : .bool true = u18 := V18.symm
                    exact opTo_val (v := .bool (decide (z ≤ y))) (by simp [Region.wanted, yielded, e18]) (by simp [go_sem, Act.eval, e24, e29]) ⟨(fun h => by cases h), rfl, wi⟩
                  | 31, _ =>
                    refine steps_of rfl ?_
                    intro L aq wq hL hd st wi
                    obtain ⟨u18, e18, V18⟩ := st.val 18 _ _ rfl rfl (hd ⟨18, .data⟩ (by simp) rfl)
                    obtain rfl : .bool true = u18 := V18.symm
                    obtain ⟨u30, e30, V30⟩ := st.val 30 _ _ rfl rfl (hd ⟨30, .data⟩ (by simp) rfl)
                    obtain rfl : .bool (decide (z ≤ y)) = u30 := V30.symm
                    obtain ⟨u15, e15, V15⟩ := st.val 15 _ _ rfl rfl (hd ⟨15, .guard⟩ (by simp) rfl)
                    obtain rfl : .bool false = u15 := V15.symm
                    exact opTo_val (v := .bool (decide (z ≤ y))) (by simp [Region.wanted, yielded, e15]) (by simp [go_sem, Act.eval, e18, e30]) ⟨(fun h => by cases h), rfl, wi⟩
                  | 32, _ =>
                    refine steps_of rfl ?_
                    intro L aq wq hL hd st wi
                    obtain ⟨u15, e15, V15⟩ := st.val 15 _ _ rfl rfl (hd ⟨15, .data⟩ (by simp) rfl)
                    obtain rfl : .bool false = u15 := V15.symm
                    obtain ⟨u31, e31, V31⟩ := st.val 31 _ _ rfl rfl (hd ⟨31, .data⟩ (by simp) rfl)
                    obtain rfl : .bool (decide (z ≤ y)) = u31 := V31.symm
                    exact opTo_val (v := .bool (decide (z ≤ y))) rfl (by simp [go_sem, Act.eval, e15, e31]) ⟨(fun h => by cases h), rfl, wi⟩
                  | (i + 33), h => omega
                case hendD =>
                  intro vals w' hV hW
                  have x32 : vals 32 = .bool (decide (z ≤ y)) := hV 32 _ _ rfl rfl
                  simp only [putAll, Act.put, List.setIfInBounds_toArray, List.set_cons_succ, List.set_cons_zero, x32]
                  have HAW : RowKit.Hid (Agrees All wr w') := Lib.hid (by have := (Agrees.refl All wr).drew; rw [hW0] at this; exact this.trans hW)
                  clear hV hW x32 hdr hbl hx0 HDR HBL HX0 hW0
                  by_cases hzy : z ≤ y
                  · go_wp2_with fail
                    go_ret
                    exact ⟨congrArg (fun b => Ending.returned (Value.bool b)) (HFAIL.out (fun h => by rw [HLAST.out] at h; omega)).symm, HA1.out.trans (HW.out.2.trans HAW.out)⟩
                  · go_wp2_with fail
                    refine ⟨⟨k + 1, by omega, by simp, Lib.hid ⟨?_, HW.out.2.trans HAW.out⟩⟩, by simp [intOf]; omega⟩
                    exact HSTEP.out (by rw [HLAST.out]; omega) (by omega)
              · have hd2 : decide (0 < k) = false := decide_eq_false h2
                go_wp2_with fail
                have hdr := HDR.out
                have hbl := HBL.out
                have hx0 := HX0.out
                refine wp_region_plan (by kernel_rfl) ?hokC (by kernel_rfl) (vMayC w.heap.size b off' bn bc pn k z) (fun _ _ W => Agrees All W0 W) ?h0C (fun i hi => ?stepsC) ?hendC
                case hokC => kernel_rfl
                case h0C => exact fun vals => by rw [hW0]; exact Agrees.refl _ _
                case stepsC =>
                  generalize w.heap.size = db at *
                  generalize off' = off at *
                  generalize bn = n at *
                  generalize bc = cap at *
                  have hi' : i < 33 := hi
                  match i, hi' with
                  | 0, _ =>
                    refine steps_of rfl ?_
                    intro L aq wq hL hd st wi
                    have o1 := st.outside (t := 1) rfl (v := .pointer (some ⟨db, 0, none⟩)) rfl
                    exact opTo_val (v := .pointer (some ⟨db, 2, none⟩)) rfl (by simp [go_sem, Act.eval, o1]) ⟨(fun h => by cases h), rfl, wi⟩
                  | 1, _ =>
                    refine steps_of rfl ?_
                    intro L aq wq hL hd st wi
                    obtain ⟨u0, e0, V0⟩ := st.val 0 _ _ rfl rfl (hd ⟨0, .data⟩ (by simp) rfl)
                    obtain rfl : .pointer (some ⟨db, 2, none⟩) = u0 := V0.symm
                    exact opTo_val (v := .slice (some ⟨b, off, none⟩) n cap) rfl (ex_load1 (ty := 35) rfl oneIntsL (eval_tmp e0) (by rw [cell_of_row _ _ _ _ _ _ ((wi.block _ (Array.getElem?_eq_some_iff.1 hdr).1 trivial).trans hdr)]; rfl)) ⟨(fun h => by cases h), rfl, wi⟩
                  | 2, _ =>
                    refine steps_of rfl ?_
                    intro L aq wq hL hd st wi
                    have o5 := st.outside (t := 5) rfl (v := .int .i64 (k : Int)) rfl
                    exact opTo_val (v := .int .i64 (k : Int)) rfl (ex_move (.inl rfl) (eval_tmp o5)) ⟨(fun h => by cases h), rfl, wi⟩
                  | 3, _ =>
                    refine steps_of rfl ?_
                    intro L aq wq hL hd st wi
                    obtain ⟨u1, e1, V1⟩ := st.val 1 _ _ rfl rfl (hd ⟨1, .data⟩ (by simp) rfl)
                    obtain rfl : .slice (some ⟨b, off, none⟩) n cap = u1 := V1.symm
                    obtain ⟨u2, e2, V2⟩ := st.val 2 _ _ rfl rfl (hd ⟨2, .data⟩ (by simp) rfl)
                    obtain rfl : .int .i64 (k : Int) = u2 := V2.symm
                    exact opTo_val (v := .pointer (some ⟨b, off + k * 1, none⟩)) rfl (ex_idx rfl Try.underlying35 oneInt.2 b off n cap k (eval_tmp e1) (eval_tmp e2) (by omega)) ⟨(fun h => by cases h), rfl, wi⟩
                  | 4, _ =>
                    refine steps_of rfl ?_
                    intro L aq wq hL hd st wi
                    obtain ⟨u3, e3, V3⟩ := st.val 3 _ _ rfl rfl (hd ⟨3, .data⟩ (by simp) rfl)
                    obtain rfl : .pointer (some ⟨b, off + k * 1, none⟩) = u3 := V3.symm
                    exact opTo_val (v := .int .i64 z) rfl (ex_load1 (ty := 3) rfl oneInt (eval_tmp e3) ((wi.cell (p := ⟨b, off + k * 1, none⟩) hbl trivial).trans hx0)) ⟨(fun h => by cases h), rfl, wi⟩
                  | 5, _ =>
                    refine steps_of rfl ?_
                    intro L aq wq hL hd st wi
                    obtain ⟨u4, e4, V4⟩ := st.val 4 _ _ rfl rfl (hd ⟨4, .data⟩ (by simp) rfl)
                    obtain rfl : .int .i64 z = u4 := V4.symm
                    exact opTo_val (v := .bool false) rfl (by simp [go_sem, Act.eval, e4, hd0]) ⟨(fun h => by cases h), rfl, wi⟩
                  | 6, _ =>
                    refine steps_of rfl ?_
                    intro L aq wq hL hd st wi
                    obtain ⟨u5, e5, V5⟩ := st.val 5 _ _ rfl rfl (hd ⟨5, .data⟩ (by simp) rfl)
                    obtain rfl : .bool false = u5 := V5.symm
                    exact opTo_val (v := .bool false) rfl (ex_move (.inl rfl) (eval_tmp e5)) ⟨(fun h => by cases h), rfl, wi⟩
                  | 7, _ =>
                    refine steps_of rfl ?_
                    intro L aq wq hL hd st wi
                    have o1 := st.outside (t := 1) rfl (v := .pointer (some ⟨db, 0, none⟩)) rfl
                    obtain ⟨u6, e6, V6⟩ := st.val 6 _ _ rfl rfl (hd ⟨6, .guard⟩ (by simp) rfl)
                    obtain rfl : .bool false = u6 := V6.symm
                    exact opTo_val (v := .pointer (some ⟨db, 2, none⟩)) (by simp [Region.wanted, yielded, e6]) (by simp [go_sem, Act.eval, o1]) ⟨(fun h => by cases h), rfl, wi⟩
                  | 8, _ =>
                    refine steps_of rfl ?_
                    intro L aq wq hL hd st wi
                    obtain ⟨u7, e7, V7⟩ := st.val 7 _ _ rfl rfl (hd ⟨7, .data⟩ (by simp) rfl)
                    obtain rfl : .pointer (some ⟨db, 2, none⟩) = u7 := V7.symm
                    obtain ⟨u6, e6, V6⟩ := st.val 6 _ _ rfl rfl (hd ⟨6, .guard⟩ (by simp) rfl)
                    obtain rfl : .bool false = u6 := V6.symm
                    exact opTo_val (v := .slice (some ⟨b, off, none⟩) n cap) (by simp [Region.wanted, yielded, e6]) (ex_load1 (ty := 35) rfl oneIntsL (eval_tmp e7) (by rw [cell_of_row _ _ _ _ _ _ ((wi.block _ (Array.getElem?_eq_some_iff.1 hdr).1 trivial).trans hdr)]; rfl)) ⟨(fun h => by cases h), rfl, wi⟩
                  | 9, _ =>
                    refine steps_of rfl ?_
                    intro L aq wq hL hd st wi
                    have o5 := st.outside (t := 5) rfl (v := .int .i64 (k : Int)) rfl
                    obtain ⟨u6, e6, V6⟩ := st.val 6 _ _ rfl rfl (hd ⟨6, .guard⟩ (by simp) rfl)
                    obtain rfl : .bool false = u6 := V6.symm
                    exact opTo_val (v := .int .i64 (k : Int)) (by simp [Region.wanted, yielded, e6]) (ex_move (.inl rfl) (eval_tmp o5)) ⟨(fun h => by cases h), rfl, wi⟩
                  | 10, _ =>
                    refine steps_of rfl ?_
                    intro L aq wq hL hd st wi
                    obtain ⟨u8, e8, V8⟩ := st.val 8 _ _ rfl rfl (hd ⟨8, .data⟩ (by simp) rfl)
                    obtain rfl : .slice (some ⟨b, off, none⟩) n cap = u8 := V8.symm
                    obtain ⟨u9, e9, V9⟩ := st.val 9 _ _ rfl rfl (hd ⟨9, .data⟩ (by simp) rfl)
                    obtain rfl : .int .i64 (k : Int) = u9 := V9.symm
                    obtain ⟨u6, e6, V6⟩ := st.val 6 _ _ rfl rfl (hd ⟨6, .guard⟩ (by simp) rfl)
                    obtain rfl : .bool false = u6 := V6.symm
                    exact opTo_val (v := .pointer (some ⟨b, off + k * 1, none⟩)) (by simp [Region.wanted, yielded, e6]) (ex_idx rfl Try.underlying35 oneInt.2 b off n cap k (eval_tmp e8) (eval_tmp e9) (by omega)) ⟨(fun h => by cases h), rfl, wi⟩
                  | 11, _ =>
                    refine steps_of rfl ?_
                    intro L aq wq hL hd st wi
                    obtain ⟨u10, e10, V10⟩ := st.val 10 _ _ rfl rfl (hd ⟨10, .data⟩ (by simp) rfl)
                    obtain rfl : .pointer (some ⟨b, off + k * 1, none⟩) = u10 := V10.symm
                    obtain ⟨u6, e6, V6⟩ := st.val 6 _ _ rfl rfl (hd ⟨6, .guard⟩ (by simp) rfl)
                    obtain rfl : .bool false = u6 := V6.symm
                    exact opTo_val (v := .int .i64 z) (by simp [Region.wanted, yielded, e6]) (ex_load1 (ty := 3) rfl oneInt (eval_tmp e10) ((wi.cell (p := ⟨b, off + k * 1, none⟩) hbl trivial).trans hx0)) ⟨(fun h => by cases h), rfl, wi⟩
                  | 12, _ =>
                    refine steps_of rfl ?_
                    intro L aq wq hL hd st wi
                    have o3 := st.outside (t := 3) rfl (v := .int .i64 (pn : Int)) rfl
                    obtain ⟨u6, e6, V6⟩ := st.val 6 _ _ rfl rfl (hd ⟨6, .guard⟩ (by simp) rfl)
                    obtain rfl : .bool false = u6 := V6.symm
                    exact opTo_val (v := .int .i64 (pn : Int)) (by simp [Region.wanted, yielded, e6]) (ex_move (.inl rfl) (eval_tmp o3)) ⟨(fun h => by cases h), rfl, wi⟩
                  | 13, _ =>
                    refine steps_of rfl ?_
                    intro L aq wq hL hd st wi
                    obtain ⟨u11, e11, V11⟩ := st.val 11 _ _ rfl rfl (hd ⟨11, .data⟩ (by simp) rfl)
                    obtain rfl : .int .i64 z = u11 := V11.symm
                    obtain ⟨u12, e12, V12⟩ := st.val 12 _ _ rfl rfl (hd ⟨12, .data⟩ (by simp) rfl)
                    obtain rfl : .int .i64 (pn : Int) = u12 := V12.symm
                    obtain ⟨u6, e6, V6⟩ := st.val 6 _ _ rfl rfl (hd ⟨6, .guard⟩ (by simp) rfl)
                    obtain rfl : .bool false = u6 := V6.symm
                    exact opTo_val (v := .bool false) (by simp [Region.wanted, yielded, e6]) (by simp [go_sem, Act.eval, e11, e12, hd1]) ⟨(fun h => by cases h), rfl, wi⟩
                  | 14, _ =>
                    refine steps_of rfl ?_
                    intro L aq wq hL hd st wi
                    obtain ⟨u6, e6, V6⟩ := st.val 6 _ _ rfl rfl (hd ⟨6, .data⟩ (by simp) rfl)
                    obtain rfl : .bool false = u6 := V6.symm
                    obtain ⟨u13, e13, V13⟩ := st.val 13 _ _ rfl rfl (hd ⟨13, .data⟩ (by simp) rfl)
                    obtain rfl : .bool false = u13 := V13.symm
                    exact opTo_val (v := .bool false) rfl (by simp [go_sem, Act.eval, e6, e13]) ⟨(fun h => by cases h), rfl, wi⟩
                  | 15, _ =>
                    refine steps_of rfl ?_
                    intro L aq wq hL hd st wi
                    obtain ⟨u14, e14, V14⟩ := st.val 14 _ _ rfl rfl (hd ⟨14, .data⟩ (by simp) rfl)
                    obtain rfl : .bool false = u14 := V14.symm
                    exact opTo_val (v := .bool false) rfl (ex_move (.inl rfl) (eval_tmp e14)) ⟨(fun h => by cases h), rfl, wi⟩
                  | 16, _ =>
                    refine steps_of rfl ?_
                    intro L aq wq hL hd st wi
                    have o5 := st.outside (t := 5) rfl (v := .int .i64 (k : Int)) rfl
                    obtain ⟨u15, e15, V15⟩ := st.val 15 _ _ rfl rfl (hd ⟨15, .guard⟩ (by simp) rfl)
                    obtain rfl : .bool false = u15 := V15.symm
                    exact opTo_val (v := .int .i64 (k : Int)) (by simp [Region.wanted, yielded, e15]) (ex_move (.inl rfl) (eval_tmp o5)) ⟨(fun h => by cases h), rfl, wi⟩
                  | 17, _ =>
                    refine steps_of rfl ?_
                    intro L aq wq hL hd st wi
                    obtain ⟨u16, e16, V16⟩ := st.val 16 _ _ rfl rfl (hd ⟨16, .data⟩ (by simp) rfl)
                    obtain rfl : .int .i64 (k : Int) = u16 := V16.symm
                    obtain ⟨u15, e15, V15⟩ := st.val 15 _ _ rfl rfl (hd ⟨15, .guard⟩ (by simp) rfl)
                    obtain rfl : .bool false = u15 := V15.symm
                    exact opTo_val (v := .bool false) (by simp [Region.wanted, yielded, e15]) (by simp [go_sem, Act.eval, e16, hd2]) ⟨(fun h => by cases h), rfl, wi⟩
                  | 18, _ =>
                    refine steps_of rfl ?_
                    intro L aq wq hL hd st wi
                    obtain ⟨u17, e17, V17⟩ := st.val 17 _ _ rfl rfl (hd ⟨17, .data⟩ (by simp) rfl)
                    obtain rfl : .bool false = u17 := V17.symm
                    obtain ⟨u15, e15, V15⟩ := st.val 15 _ _ rfl rfl (hd ⟨15, .chain⟩ (by simp) rfl)
                    obtain rfl : .bool false = u15 := V15.symm
                    exact opTo_val (v := .bool false) (by simp [Region.wanted, yielded, e15]) (ex_move (.inl rfl) (eval_tmp e17)) ⟨(fun h => by cases h), rfl, wi⟩
                  | 19, _ =>
                    refine steps_of rfl ?_
                    intro L aq wq hL hd st wi
                    have o1 := st.outside (t := 1) rfl (v := .pointer (some ⟨db, 0, none⟩)) rfl
                    obtain ⟨u18, e18, V18⟩ := st.val 18 _ _ rfl rfl (hd ⟨18, .guard⟩ (by simp) rfl)
                    obtain rfl : .bool false = u18 := V18.symm
                    exact opTo_not (by simp [Region.wanted, yielded, e18]) ⟨fun _ => rfl, rfl, wi⟩
                  | 20, _ =>
                    refine steps_of rfl ?_
                    intro L aq wq hL hd st wi
                    obtain ⟨u19, e19, V19⟩ := st.val 19 _ _ rfl rfl (hd ⟨19, .data⟩ (by simp) rfl)
                    obtain rfl : undef = u19 := V19.symm
                    obtain ⟨u18, e18, V18⟩ := st.val 18 _ _ rfl rfl (hd ⟨18, .guard⟩ (by simp) rfl)
                    obtain rfl : .bool false = u18 := V18.symm
                    exact opTo_not (by simp [Region.wanted, yielded, e18]) ⟨fun _ => rfl, rfl, wi⟩
                  | 21, _ =>
                    refine steps_of rfl ?_
                    intro L aq wq hL hd st wi
                    have o5 := st.outside (t := 5) rfl (v := .int .i64 (k : Int)) rfl
                    obtain ⟨u18, e18, V18⟩ := st.val 18 _ _ rfl rfl (hd ⟨18, .guard⟩ (by simp) rfl)
                    obtain rfl : .bool false = u18 := V18.symm
                    exact opTo_not (by simp [Region.wanted, yielded, e18]) ⟨fun _ => rfl, rfl, wi⟩
                  | 22, _ =>
                    refine steps_of rfl ?_
                    intro L aq wq hL hd st wi
                    obtain ⟨u21, e21, V21⟩ := st.val 21 _ _ rfl rfl (hd ⟨21, .data⟩ (by simp) rfl)
                    obtain rfl : undef = u21 := V21.symm
                    obtain ⟨u18, e18, V18⟩ := st.val 18 _ _ rfl rfl (hd ⟨18, .guard⟩ (by simp) rfl)
                    obtain rfl : .bool false = u18 := V18.symm
                    exact opTo_not (by simp [Region.wanted, yielded, e18]) ⟨fun _ => rfl, rfl, wi⟩
                  | 23, _ =>
                    refine steps_of rfl ?_
                    intro L aq wq hL hd st wi
                    obtain ⟨u20, e20, V20⟩ := st.val 20 _ _ rfl rfl (hd ⟨20, .data⟩ (by simp) rfl)
                    obtain rfl : undef = u20 := V20.symm
                    obtain ⟨u22, e22, V22⟩ := st.val 22 _ _ rfl rfl (hd ⟨22, .data⟩ (by simp) rfl)
                    obtain rfl : undef = u22 := V22.symm
                    obtain ⟨u18, e18, V18⟩ := st.val 18 _ _ rfl rfl (hd ⟨18, .guard⟩ (by simp) rfl)
                    obtain rfl : .bool false = u18 := V18.symm
                    exact opTo_not (by simp [Region.wanted, yielded, e18]) ⟨fun _ => rfl, rfl, wi⟩
                  | 24, _ =>
                    refine steps_of rfl ?_
                    intro L aq wq hL hd st wi
                    obtain ⟨u23, e23, V23⟩ := st.val 23 _ _ rfl rfl (hd ⟨23, .data⟩ (by simp) rfl)
                    obtain rfl : undef = u23 := V23.symm
                    obtain ⟨u18, e18, V18⟩ := st.val 18 _ _ rfl rfl (hd ⟨18, .guard⟩ (by simp) rfl)
                    obtain rfl : .bool false = u18 := V18.symm
                    exact opTo_not (by simp [Region.wanted, yielded, e18]) ⟨fun _ => rfl, rfl, wi⟩
                  | 25, _ =>
                    refine steps_of rfl ?_
                    intro L aq wq hL hd st wi
                    have o1 := st.outside (t := 1) rfl (v := .pointer (some ⟨db, 0, none⟩)) rfl
                    obtain ⟨u18, e18, V18⟩ := st.val 18 _ _ rfl rfl (hd ⟨18, .guard⟩ (by simp) rfl)
                    obtain rfl : .bool false = u18 := V18.symm
                    exact opTo_not (by simp [Region.wanted, yielded, e18]) ⟨fun _ => rfl, rfl, wi⟩
                  | 26, _ =>
                    refine steps_of rfl ?_
                    intro L aq wq hL hd st wi
                    obtain ⟨u25, e25, V25⟩ := st.val 25 _ _ rfl rfl (hd ⟨25, .data⟩ (by simp) rfl)
                    obtain rfl : undef = u25 := V25.symm
                    obtain ⟨u18, e18, V18⟩ := st.val 18 _ _ rfl rfl (hd ⟨18, .guard⟩ (by simp) rfl)
                    obtain rfl : .bool false = u18 := V18.symm
                    exact opTo_not (by simp [Region.wanted, yielded, e18]) ⟨fun _ => rfl, rfl, wi⟩
                  | 27, _ =>
                    refine steps_of rfl ?_
                    intro L aq wq hL hd st wi
                    have o5 := st.outside (t := 5) rfl (v := .int .i64 (k : Int)) rfl
                    obtain ⟨u18, e18, V18⟩ := st.val 18 _ _ rfl rfl (hd ⟨18, .guard⟩ (by simp) rfl)
                    obtain rfl : .bool false = u18 := V18.symm
                    exact opTo_not (by simp [Region.wanted, yielded, e18]) ⟨fun _ => rfl, rfl, wi⟩
                  | 28, _ =>
                    refine steps_of rfl ?_
                    intro L aq wq hL hd st wi
                    obtain ⟨u26, e26, V26⟩ := st.val 26 _ _ rfl rfl (hd ⟨26, .data⟩ (by simp) rfl)
                    obtain rfl : undef = u26 := V26.symm
                    obtain ⟨u27, e27, V27⟩ := st.val 27 _ _ rfl rfl (hd ⟨27, .data⟩ (by simp) rfl)
                    obtain rfl : undef = u27 := V27.symm
                    obtain ⟨u18, e18, V18⟩ := st.val 18 _ _ rfl rfl (hd ⟨18, .guard⟩ (by simp) rfl)
                    obtain rfl : .bool false = u18 := V18.symm
                    exact opTo_not (by simp [Region.wanted, yielded, e18]) ⟨fun _ => rfl, rfl, wi⟩
                  | 29, _ =>
                    refine steps_of rfl ?_
                    intro L aq wq hL hd st wi
                    obtain ⟨u28, e28, V28⟩ := st.val 28 _ _ rfl rfl (hd ⟨28, .data⟩ (by simp) rfl)
                    obtain rfl : undef = u28 := V28.symm
                    obtain ⟨u18, e18, V18⟩ := st.val 18 _ _ rfl rfl (hd ⟨18, .guard⟩ (by simp) rfl)
                    obtain rfl : .bool false = u18 := V18.symm
                    exact opTo_not (by simp [Region.wanted, yielded, e18]) ⟨fun _ => rfl, rfl, wi⟩
                  | 30, _ =>
                    refine steps_of rfl ?_
                    intro L aq wq hL hd st wi
                    obtain ⟨u24, e24, V24⟩ := st.val 24 _ _ rfl rfl (hd ⟨24, .data⟩ (by simp) rfl)
                    obtain rfl : undef = u24 := V24.symm
                    obtain ⟨u29, e29, V29⟩ := st.val 29 _ _ rfl rfl (hd ⟨29, .data⟩ (by simp) rfl)
                    obtain rfl : undef = u29 := V29.symm
                    obtain ⟨u18, e18, V18⟩ := st.val 18 _ _ rfl rfl (hd ⟨18, .guard⟩ (by simp) rfl)
                    obtain rfl : .bool false = u18 := V18.symm
                    exact opTo_not (by simp [Region.wanted, yielded, e18]) ⟨fun _ => rfl, rfl, wi⟩
                  | 31, _ =>
                    refine steps_of rfl ?_
                    intro L aq wq hL hd st wi
                    obtain ⟨u18, e18, V18⟩ := st.val 18 _ _ rfl rfl (hd ⟨18, .data⟩ (by simp) rfl)
                    obtain rfl : .bool false = u18 := V18.symm
                    obtain ⟨u30, e30, V30⟩ := st.val 30 _ _ rfl rfl (hd ⟨30, .data⟩ (by simp) rfl)
                    obtain rfl : undef = u30 := V30.symm
                    obtain ⟨u15, e15, V15⟩ := st.val 15 _ _ rfl rfl (hd ⟨15, .guard⟩ (by simp) rfl)
                    obtain rfl : .bool false = u15 := V15.symm
                    exact opTo_val (v := .bool false) (by simp [Region.wanted, yielded, e15]) (by simp [go_sem, Act.eval, e18, e30]) ⟨(fun h => by cases h), rfl, wi⟩
                  | 32, _ =>
                    refine steps_of rfl ?_
                    intro L aq wq hL hd st wi
                    obtain ⟨u15, e15, V15⟩ := st.val 15 _ _ rfl rfl (hd ⟨15, .data⟩ (by simp) rfl)
                    obtain rfl : .bool false = u15 := V15.symm
                    obtain ⟨u31, e31, V31⟩ := st.val 31 _ _ rfl rfl (hd ⟨31, .data⟩ (by simp) rfl)
                    obtain rfl : .bool false = u31 := V31.symm
                    exact opTo_val (v := .bool false) rfl (by simp [go_sem, Act.eval, e15, e31]) ⟨(fun h => by cases h), rfl, wi⟩
                  | (i + 33), h => omega
                case hendC =>
                  intro vals w' hV hW
                  have x32 : vals 32 = .bool false := hV 32 _ _ rfl rfl
                  simp only [putAll, Act.put, List.setIfInBounds_toArray, List.set_cons_succ, List.set_cons_zero, x32]
                  have HAW : RowKit.Hid (Agrees All wr w') := Lib.hid (by have := (Agrees.refl All wr).drew; rw [hW0] at this; exact this.trans hW)
                  clear hV hW x32 hdr hbl hx0 HDR HBL HX0 hW0
                  go_wp2_with fail
                  refine ⟨⟨k + 1, by omega, by simp, Lib.hid ⟨?_, HW.out.2.trans HAW.out⟩⟩, by simp [intOf]; omega⟩
                  exact HSTEP.out (by obtain rfl : k = 0 := (by omega); simp; omega) (by omega)
        · obtain rfl : k = bn := by omega
          have HEND : RowKit.Hid (rising d.size (-1) d.bad = true) := by
            have := HW.out.1
            rw [List.take_of_length_le (by rw [HBN.out]; exact Nat.le_refl _)] at this
            exact this
          have HAE := Lib.hid HW.out.2
          clear HW
          go_wp2_with fail
          go_ret
          refine ⟨?_, HA1.out.trans HAE.out⟩
          rw [HMAY.out, HM0.out, HCA.out, HEND.out]; rfl
end Suture
