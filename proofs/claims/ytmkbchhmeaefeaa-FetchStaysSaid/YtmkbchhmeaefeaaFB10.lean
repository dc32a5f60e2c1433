/-
  A PAGE READ, as the document says: sutureref03.Read.
  Conditions: none beyond the disk's own reading.
-/
import Derived.Test.YtmkbchhmeaefeaaFB9
import Derived.WalkKit
import Derived.ProofKit
import Derived.OpenShut
import Derived.Deep.Slices
namespace Suture
open Go Go.RowKit Go.Proofs
attribute [local go_sem] Oper.semAt_some

theorem waits_rev (d : Disk) (a : Int) : d.waits a = ((d.cache.filter (fun x => x.1 == a)).map (·.2)).reverse := by
  unfold Disk.waits
  rw [List.filter_reverse, List.map_reverse]
theorem waits_hit {d : Disk} {a : Int} {i : Nat} {x : Int × List (BitVec 8)} (h : (d.cache.drop (i + 1)).all (fun x => x.1 != a) = true) (hx : d.cache[i]? = some x) (ha : x.1 = a) : ∃ l, d.waits a = x.2 :: l := by
  have hlt := (List.getElem?_eq_some_iff.1 hx).1
  have e : d.cache = d.cache.take i ++ (x :: d.cache.drop (i + 1)) := by
    have := List.take_append_drop i d.cache
    rw [List.drop_eq_getElem_cons hlt] at this
    rw [(List.getElem?_eq_some_iff.1 hx).2] at this
    exact this.symm
  have hn : (d.cache.drop (i + 1)).filter (fun x => x.1 == a) = [] := by
    rw [List.filter_eq_nil_iff]
    intro y hy
    have := List.all_eq_true.1 h y hy
    simpa using this
  rw [waits_rev, e, List.filter_append, List.filter_cons, if_pos (by simp [ha])]
  have : (x :: List.filter (fun x => x.1 == a) (d.cache.drop (i + 1))) = [x] := by rw [hn]
  rw [this]
  simp
theorem waits_none {d : Disk} {a : Int} (h : d.cache.all (fun x => x.1 != a) = true) : d.waits a = [] := by
  rw [waits_rev]
  have hn : d.cache.filter (fun x => x.1 == a) = [] := by
    rw [List.filter_eq_nil_iff]
    intro y hy
    have := List.all_eq_true.1 h y hy
    simpa using this
  rw [hn]; rfl
theorem asked_in {d : Disk} {a : Int} (h : d.asked a = 0) : 0 ≤ a ∧ a < (d.pages.length : Int) := by
  unfold Disk.asked at h
  split at h
  · cases h
  · rename_i hc
    simp only [Bool.or_eq_true, decide_eq_true_eq, not_or] at hc
    have := hc.1.2
    have := hc.2
    unfold Disk.size at *
    omega

set_option maxHeartbeats 4000000 in
set_option maxRecDepth 100000 in
theorem rread_calls (v : DV) (d : Disk) (n : Int) (w : World) (hv : DiskAt All w v d) :
    Calls Try.prog 26 #[.agg v.cells, .int .i64 n] w fun e w' => e = .returned (.tuple #[.agg (pageCells (d.read n).1), .int .i64 (d.read n).2]) ∧ Agrees All w w' := by
  obtain ⟨W1, hW1⟩ : ∃ W1, w.alloc (.cells v.cells 37) = W1 := ⟨_, rfl⟩
  obtain ⟨W2, hW2⟩ : ∃ W2, W1.alloc (.cells (pageCells noPage) 32) = W2 := ⟨_, rfl⟩
  have hs1 : W1.heap.size = w.heap.size + 1 := by rw [← hW1]; simp
  have hA2 : Agrees All w W2 := by rw [← hW2, ← hW1]; exact ((Agrees.refl _ w).alloc _).alloc _
  have HR0 := Lib.hid (show W2.heap[w.heap.size]? = some (.cells v.cells 37 (0, 0)) by rw [← hW2, ← hW1]; exact row_old (row_new _ rfl))
  have HR1 := Lib.hid (show W2.heap[w.heap.size + 1]? = some (.cells (pageCells noPage) 32 (0, 0)) by rw [← hW2]; exact row_new _ hs1)
  have HM := Lib.hid (rat_calls v d n W2 (hv.agrees hA2 fun _ h => h))
  have HRL := Lib.hid (Disk.read_len d hv.ok n)
  have HV := Lib.hid hv
  have HA2 := Lib.hid hA2
  have hmc := hv.cache.max.1
  have hmb := hv.bad.max.1
  have HN0 := Lib.hid (show (pageCells noPage).size = 256 by rw [pageCells_size]; exact noPage_len)
  clear hv hA2
  go_enter Try.func26, Try.ntmps26
  go_wp2_with (first | (refine wpList_val rfl (ex_alloc rfl (.agg (pageCells noPage)) zero_page) ?_; rw [show (Value.agg (pageCells noPage)).cells = pageCells noPage from rfl, hW2, hs1]) | (refine wpList_val rfl (ex_load (ty := 37) rfl isAgg_disk w.heap.size 0 rfl v.cells rfl (v.load HR0.out)) ?_))
  refine HM.out.mono ?_
  rintro e W3 ⟨rfl, hag⟩
  have HA3 := Lib.hid (HA2.out.trans hag)
  have HQ0 := Lib.hid ((hag.block _ (Array.getElem?_eq_some_iff.1 HR0.out).1 trivial).trans HR0.out)
  have HQ1 := Lib.hid ((hag.block _ (Array.getElem?_eq_some_iff.1 HR1.out).1 trivial).trans HR1.out)
  have HVV := Lib.hid (HV.out.agrees HA3.out fun _ h => h)
  have hsz3 := (Array.getElem?_eq_some_iff.1 HQ1.out).1
  -- how a result is left
  have HFIN : RowKit.Hid (∀ (p : List (BitVec 8)) (e : Int), d.read n = (p, e) → p.length = 256 → ∀ e' , e' = e → Ending.returned (.tuple #[.agg (pageCells p), .int .i64 e']) = Ending.returned (.tuple #[.agg (pageCells (d.read n).1), .int .i64 (d.read n).2]) ∧ Agrees All w (W3.setRow (w.heap.size + 1) (pageCells p))) := by
    refine Lib.hid fun p e h _ e' he => ?_
    subst he
    rw [h]
    exact ⟨rfl, HA3.out.setRow (.inr (by omega)) _⟩
  have HROW : RowKit.Hid (∀ p : List (BitVec 8), (W3.setRow (w.heap.size + 1) (pageCells p)).heap[w.heap.size + 1]? = some (.cells (pageCells p) 32 (0, 0))) := Lib.hid fun p => setRow_heap _ _ _ _ _ _ HQ1.out
  clear hag HR0 HR1 HM hW1 hW2 hs1 HV HA2
  obtain ⟨pa, pn, pc, ca, cn, cc, ba, bn, bc, off⟩ := v
  have HPN : RowKit.Hid (d.pages.length = pn) := HVV.out.pn
  have HCN : RowKit.Hid (d.cache.length = cn) := HVV.out.cn
  have HBN : RowKit.Hid (d.bad.length = bn) := HVV.out.bn
  have c0 : W3.cell? ⟨w.heap.size, 0, none⟩ = some (.slice pa pn pc) := by rw [cell_of_row _ _ _ _ _ _ HQ0.out]; rfl
  have c1 : W3.cell? ⟨w.heap.size, 1, none⟩ = some (.slice ca cn cc) := by rw [cell_of_row _ _ _ _ _ _ HQ0.out]; rfl
  have c2 : W3.cell? ⟨w.heap.size, 2, none⟩ = some (.slice ba bn bc) := by rw [cell_of_row _ _ _ _ _ _ HQ0.out]; rfl
  simp only at hmc hmb
  generalize hask : d.asked n = ask at *
  by_cases h0 : ask = 0
  · subst h0
    go_wp2_with fail
    have HASK := Lib.hid hask
    have HIN := Lib.hid (asked_in hask)
    have HRD : RowKit.Hid (d.read n = match d.waits n with
        | p :: _ => (p, 0)
        | [] => if d.bad.contains n then (noPage, 31) else (d.pages.getD n.toNat noPage, 0)) := by
      refine Lib.hid ?_
      unfold Disk.read
      rw [hask, if_neg (by simp)]
      cases d.waits n <;> rfl
    clear hask
    go_loop [7] (fun ii => ∃ (i : Nat) (t : Int), i ≤ cn ∧ ii = .int .i64 t ∧ RowKit.Hid (t = (i : Int) - 1) ∧ RowKit.Hid ((d.cache.drop i).all (fun x => x.1 != n) = true)) (fun ii => (intOf ii + 1).toNat)
    case atStart => exact ⟨cn, _, by omega, rfl, Lib.hid rfl, Lib.hid (by rw [List.drop_of_length_le (by rw [HCN.out]; exact Nat.le_refl _)]; rfl)⟩
    case round =>
      obtain ⟨i, t, hi, rfl, HT, HD⟩ := hrel
      rcases Nat.eq_zero_or_pos i with hz | hpos
      · subst hz
        have ht : t = -1 := by have := HT.out; omega
        subst ht
        have HW0 : RowKit.Hid (d.waits n = []) := Lib.hid (waits_none (by simpa using HD.out))
        clear HT HD
        go_wp2_with fail
        go_loop [8] (fun ii => ∃ k : Nat, k ≤ bn ∧ ii = .int .i64 k ∧ RowKit.Hid ((d.bad.take k).contains n = false)) (fun ii => bn - (intOf ii).toNat)
        case atStart => exact ⟨0, by omega, rfl, Lib.hid rfl⟩
        case round =>
          obtain ⟨k, hk, rfl, HB⟩ := hrel
          by_cases hlt : k < bn
          · obtain ⟨z, hz⟩ : ∃ z, d.bad[k]? = some z := ⟨_, List.getElem?_eq_getElem (by rw [HBN.out]; exact hlt)⟩
            obtain ⟨b, off', rfl, _, hbl, hc⟩ := CellsAt.elem (f := intL) HVV.out.bad (fun y hy => rfl) (by omega) hz
            have hcell : W3.cell? ⟨b, off' + k, none⟩ = some (.int .i64 z) := by have := hc 0 (by omega); simpa [intL] using this
            have HZ := Lib.hid hz
            clear hc hz HVV
            by_cases he : z = n
            · subst he
              have hrd : d.read z = (noPage, 31) := by
                rw [HRD.out, HW0.out]
                simp only
                rw [if_pos (by rw [List.contains_iff_mem]; exact List.mem_of_getElem? HZ.out)]
              have HX := Lib.hid (HFIN.out _ _ hrd noPage_len 31 rfl)
              clear hrd
              go_wp2_with (first | (refine wpList_val rfl (ex_build0 rfl) ?_) | (refine wpList_unit rfl (ex_storeAll (ty := 32) rfl isAgg_page.2 (w.heap.size + 1) rfl (pageCells noPage) (pageCells noPage) rfl HN0.out HQ1.out HN0.out (pageCells_one _)) ?_))
              exact bodyPost_ret (results_a1t1' rfl _ (b := w.heap.size + 1) (x := .int .i64 31) rfl isAgg_page (vs := pageCells noPage) HN0.out (fun j _ => by rw [Nat.zero_add]; exact cell_of_row _ _ _ _ _ _ (HROW.out _)) rfl) rfl HX.out
            · have hne : (z == n) = false := by simpa using he
              have HST : RowKit.Hid ((d.bad.take (k + 1)).contains n = false) := by
                refine Lib.hid ?_
                rw [List.take_add_one, HZ.out]
                have h1 := HB.out
                simp only [List.contains_eq_mem, decide_eq_false_iff_not, Option.toList, List.mem_append, List.mem_singleton, not_or] at h1 ⊢
                exact ⟨h1, fun e => he e.symm⟩
              go_wp2_with fail
              exact ⟨⟨k + 1, by omega, by simp, HST⟩, by simp [intOf]; omega⟩
          · obtain rfl : k = bn := by omega
            have HNB : RowKit.Hid (d.bad.contains n = false) := by
              have := HB.out
              rw [List.take_of_length_le (by rw [HBN.out]; exact Nat.le_refl _)] at this
              exact this
            obtain ⟨m, rfl⟩ : ∃ m : Nat, n = m := ⟨n.toNat, by have := HIN.out.1; omega⟩
            have hm : m < pn := by have := HIN.out.2; have := HPN.out; omega
            obtain ⟨q, hq⟩ : ∃ q, d.pages[m]? = some q := ⟨_, List.getElem?_eq_getElem (by rw [HPN.out]; exact hm)⟩
            have hql : q.length = 256 := HVV.out.ok.page q (List.mem_of_getElem? hq)
            obtain ⟨b, off', rfl, _, hbl, hc⟩ := CellsAt.elem (f := pageL) HVV.out.pages (fun y hy => by rw [pageL_length]; exact HVV.out.ok.page y hy) (by omega) hq
            have HQC := Lib.hid (show ∀ j, j < 256 → W3.cell? ⟨b, off' + m * 256 + j, none⟩ = (pageCells q)[j]? from fun j hj => by rw [hc j hj, pageL_get])
            have HQS := Lib.hid (show (pageCells q).size = 256 by rw [pageCells_size, hql])
            have hrd : d.read (m : Int) = (q, 0) := by
              rw [HRD.out, HW0.out]
              simp only
              rw [if_neg (by rw [HNB.out]; simp), Int.toNat_natCast, List.getD_eq_getElem?_getD, hq]
              rfl
            have HX := Lib.hid (HFIN.out _ _ hrd hql 0 rfl)
            clear hrd hc hq HVV HB
            go_wp2_with (first | (refine wpList_val rfl (ex_load (ty := 32) rfl isAgg_page b (off' + m * 256) rfl (pageCells q) HQS.out HQC.out) ?_) | (refine wpList_unit rfl (ex_storeAll (ty := 32) rfl isAgg_page.2 (w.heap.size + 1) rfl (pageCells q) (pageCells noPage) rfl HQS.out HQ1.out HN0.out (pageCells_one _)) ?_))
            exact bodyPost_ret (results_a1t1' rfl _ (b := w.heap.size + 1) (x := .int .i64 0) rfl isAgg_page (vs := pageCells q) HQS.out (fun j _ => by rw [Nat.zero_add]; exact cell_of_row _ _ _ _ _ _ (HROW.out _)) rfl) rfl HX.out
      · obtain ⟨j, rfl⟩ : ∃ j, i = j + 1 := ⟨i - 1, by omega⟩
        have ht : t = (j : Int) := by have := HT.out; omega
        subst ht
        obtain ⟨x, hx⟩ : ∃ x, d.cache[j]? = some x := ⟨_, List.getElem?_eq_getElem (by rw [HCN.out]; omega)⟩
        have hxl := (HVV.out.ok.wr x (List.mem_of_getElem? hx)).2
        obtain ⟨b, off', rfl, _, hbl, hc⟩ := CellsAt.elem (f := wrL) HVV.out.cache (fun y hy => by rw [wrL_length, (HVV.out.ok.wr y hy).2]) (by omega) hx
        have hcell : W3.cell? ⟨b, off' + j * 257, none⟩ = some (.int .i64 x.1) := hc 0 (by omega)
        have HPC := Lib.hid (show ∀ k, k < 256 → W3.cell? ⟨b, off' + j * 257 + 1 + k, none⟩ = (pageCells x.2)[k]? from fun k hk => by
          have := hc (k + 1) (by omega)
          rw [show off' + j * 257 + 1 + k = off' + j * 257 + (k + 1) by omega, this, ← pageL_get]
          rfl)
        have HPS := Lib.hid (show (pageCells x.2).size = 256 by rw [pageCells_size, hxl])
        have HXE := Lib.hid hx
        have HXL := Lib.hid hxl
        have hjw : IntKind.i64.wrap ((j : Int) - 1) = (j : Int) - 1 := by rw [IntKind.wrap_i64]; omega
        have hj0 : 0 ≤ (j : Int) := by omega
        clear hc hx hxl HVV HT
        obtain ⟨x1, x2⟩ := x
        simp only at hcell HPC HPS HXL
        by_cases he : x1 = n
        · subst he
          obtain ⟨l, hl⟩ := waits_hit HD.out HXE.out rfl
          have hrd : d.read x1 = (x2, 0) := by rw [HRD.out, hl]
          have HX := Lib.hid (HFIN.out _ _ hrd HXL.out 0 rfl)
          clear hrd hl
          go_wp2_with (first | (refine wpList_val rfl (ex_load (ty := 32) rfl isAgg_page b (off' + j * 257 + 1) rfl (pageCells x2) HPS.out HPC.out) ?_) | (refine wpList_unit rfl (ex_storeAll (ty := 32) rfl isAgg_page.2 (w.heap.size + 1) rfl (pageCells x2) (pageCells noPage) rfl HPS.out HQ1.out HN0.out (pageCells_one _)) ?_))
          exact bodyPost_ret (results_a1t1' rfl _ (b := w.heap.size + 1) (x := .int .i64 0) rfl isAgg_page (vs := pageCells x2) HPS.out (fun j _ => by rw [Nat.zero_add]; exact cell_of_row _ _ _ _ _ _ (HROW.out _)) rfl) rfl HX.out
        · have hne : (x1 == n) = false := by simpa using he
          have HST : RowKit.Hid ((d.cache.drop j).all (fun x => x.1 != n) = true) := by
            refine Lib.hid ?_
            have hlt := (List.getElem?_eq_some_iff.1 HXE.out).1
            rw [List.drop_eq_getElem_cons hlt, (List.getElem?_eq_some_iff.1 HXE.out).2, List.all_cons, HD.out]
            simpa using he
          go_wp2_with fail
          exact ⟨⟨j, _, by omega, rfl, Lib.hid rfl, HST⟩, by simp [intOf]⟩
  · go_wp2_with (first | (refine wpList_val rfl (ex_build0 rfl) ?_) | (refine wpList_unit rfl (ex_storeAll (ty := 32) rfl isAgg_page.2 (w.heap.size + 1) rfl (pageCells noPage) (pageCells noPage) rfl HN0.out HQ1.out HN0.out (pageCells_one _)) ?_))
    have hrd : d.read n = (noPage, ask) := by unfold Disk.read; rw [hask, if_pos h0]
    exact bodyPost_ret (results_a1t1' rfl _ (b := w.heap.size + 1) (x := .int .i64 ask) rfl isAgg_page (vs := pageCells noPage) HN0.out (fun j _ => by rw [Nat.zero_add]; exact cell_of_row _ _ _ _ _ _ (HROW.out _)) rfl) rfl (HFIN.out _ _ hrd noPage_len _ rfl)
end Suture
/-
  READING BEHIND WRITES, in plain Lean.
  Conditions: none.
-/
namespace Suture
open Go Go.RowKit Go.Proofs

theorem writeE_zero {d : Disk} {a : Int} (h : d.writeE a = 0) : d.asked a = 0 ∧ d.cache.length < 2000 := by
  unfold Disk.writeE at h
  split at h
  · rename_i h1
    split at h
    · cases h
    · exact ⟨h1, by omega⟩
  · rename_i h1; exact (h1 h).elim
theorem asked_zero {d : Disk} {a : Int} (h : d.asked a = 0) : d.may = true ∧ 0 ≤ a ∧ a < d.size ∧ d.off = false := by
  unfold Disk.asked at h
  split at h
  · cases h
  · rename_i hc
    simp only [Bool.or_eq_true, Bool.not_eq_true', decide_eq_true_eq, not_or, Bool.not_eq_false] at hc
    split at h
    · cases h
    · rename_i ho
      exact ⟨hc.1.1, by omega, by omega, by simpa using ho⟩
theorem put_may {d : Disk} {a : Int} {p : List (BitVec 8)} (h : d.writeE a = 0) : (d.put a p).may = d.may := by
  obtain ⟨h1, h2⟩ := writeE_zero h
  obtain ⟨hm, h3, h4, h5⟩ := asked_zero h1
  rw [hm]
  unfold Disk.may at hm ⊢
  rw [Bool.and_eq_true, Bool.and_eq_true] at hm ⊢
  obtain ⟨⟨m0, m1⟩, m2⟩ := hm
  refine ⟨⟨?_, ?_⟩, m2⟩
  · unfold Disk.may0 at m0 ⊢
    simp only [Bool.and_eq_true, decide_eq_true_eq, Disk.size, Disk.put, List.length_append, List.length_cons, List.length_nil] at m0 ⊢
    refine ⟨⟨m0.1.1, by omega⟩, ?_⟩
    rw [h5]; simp
  · have e : (d.put a p).cache = d.cache ++ [(a, p)] := rfl
    have e2 : (d.put a p).size = d.size := rfl
    rw [e, e2, List.all_append, m1]
    simp [placed, h3, h4]
theorem put_asked {d : Disk} {a b : Int} {p : List (BitVec 8)} (h : d.writeE a = 0) : (d.put a p).asked b = d.asked b := by
  unfold Disk.asked
  rw [put_may h]; rfl
theorem put_waits (d : Disk) (a b : Int) (p : List (BitVec 8)) : (d.put a p).waits b = if a = b then p :: d.waits b else d.waits b := by
  unfold Disk.waits Disk.put
  simp only [List.reverse_append, List.reverse_cons, List.reverse_nil, List.nil_append, List.filter_append, List.filter_cons, List.filter_nil]
  by_cases h : a = b
  · simp [h]
  · simp [h]
theorem put_read_same {d : Disk} {a : Int} {p : List (BitVec 8)} (h : d.writeE a = 0) : (d.put a p).read a = (p, 0) := by
  unfold Disk.read
  rw [put_asked h, if_neg (by simp [(writeE_zero h).1]), put_waits, if_pos rfl]
theorem put_read_other {d : Disk} {a b : Int} {p : List (BitVec 8)} (h : d.writeE a = 0) (hne : a ≠ b) : (d.put a p).read b = d.read b := by
  unfold Disk.read
  rw [put_asked h, put_waits, if_neg hne]; rfl

theorem putE_zero {P : Pair} {i : Nat} {a : Int} (h : P.putE i a = 0) : P.burns = true ∧ (P.disk i).writeE a = 0 := by
  unfold Pair.putE at h
  split at h
  · rename_i hb; exact ⟨hb, h⟩
  · cases h
theorem pput_disk {P : Pair} {i j : Nat} (hi : i < 2) (hj : j < 2) {a : Int} {p : List (BitVec 8)} (h : P.putE i a = 0) : (P.put i a p).disk j = if j = i then (P.disk i).put a p else P.disk j := by
  unfold Pair.put
  rw [if_pos h]
  have h1 : i = 0 ∨ i = 1 := by omega
  have h2 : j = 0 ∨ j = 1 := by omega
  rcases h1 with rfl | rfl <;> rcases h2 with rfl | rfl <;> rfl
theorem pput_read {P : Pair} {i j : Nat} (hi : i < 2) (hj : j < 2) {a b : Int} {p : List (BitVec 8)} (h : P.putE i a = 0) : ((P.put i a p).disk j).read b = if j = i ∧ a = b then (p, 0) else (P.disk j).read b := by
  rw [pput_disk hi hj h]
  obtain ⟨_, hw⟩ := putE_zero h
  by_cases hji : j = i
  · subst hji
    rw [if_pos rfl]
    by_cases hab : a = b
    · subst hab; rw [put_read_same hw, if_pos ⟨rfl, rfl⟩]
    · rw [put_read_other hw hab, if_neg (fun e => hab e.2)]
  · rw [if_neg hji, if_neg (fun e => hji e.1)]
theorem pput_off {P : Pair} {i j : Nat} (hi : i < 2) (hj : j < 2) {a : Int} {p : List (BitVec 8)} : ((P.put i a p).disk j).off = (P.disk j).off := by
  unfold Pair.put
  have h1 : i = 0 ∨ i = 1 := by omega
  have h2 : j = 0 ∨ j = 1 := by omega
  split <;> rcases h1 with rfl | rfl <;> rcases h2 with rfl | rfl <;> rfl

def onPair (c : Int × Int) : Prop := c.1 = 0 ∨ c.1 = 1
theorem onPair_lt {c : Int × Int} (h : onPair c) : c.1.toNat < 2 := by unfold onPair at h; omega
theorem mend_read (pg : List (BitVec 8)) : ∀ (bs : List (Int × Int)) (P : Pair) (m : Int), (∀ c ∈ bs, onPair c) → (mendAll pg bs P m).2.2 = 0 →
    (∀ c, onPair c → c ∈ bs → ((mendAll pg bs P m).1.disk c.1.toNat).read c.2 = (pg, 0)) ∧ (∀ c, onPair c → c ∉ bs → ((mendAll pg bs P m).1.disk c.1.toNat).read c.2 = (P.disk c.1.toNat).read c.2) ∧ (mendAll pg bs P m).2.1 = m + bs.length
  | [], P, m, _, _ => ⟨fun c _ h => by simp at h, fun c _ _ => rfl, by simp [mendAll]⟩
  | b :: l, P, m, hb, h => by
    rw [mendAll] at h ⊢
    have hbp := hb b (by simp)
    by_cases he : P.putE b.1.toNat b.2 = 0
    · rw [if_pos he] at h ⊢
      obtain ⟨h1, h2, h3⟩ := mend_read pg l (P.put b.1.toNat b.2 pg) (m + 1) (fun c hc => hb c (by simp [hc])) h
      refine ⟨fun c hc hm => ?_, fun c hc hm => ?_, by rw [h3, List.length_cons]; push_cast; omega⟩
      · by_cases hcl : c ∈ l
        · exact h1 c hc hcl
        · have : c = b := by
            rcases List.mem_cons.1 hm with e | e
            · exact e
            · exact (hcl e).elim
          subst this
          rw [h2 c hc hcl, pput_read (onPair_lt hc) (onPair_lt hc) he, if_pos ⟨rfl, rfl⟩]
      · have hcl : c ∉ l := fun e => hm (by simp [e])
        rw [h2 c hc hcl, pput_read (onPair_lt hbp) (onPair_lt hc) he, if_neg]
        rintro ⟨e1, e2⟩
        apply hm
        have : c.1 = b.1 := by unfold onPair at hc hbp; omega
        rw [show c = b from Prod.ext this e2.symm]; simp
    · rw [if_neg he] at h
      exact (he h).elim
theorem mend_codes (pg : List (BitVec 8)) : ∀ (bs : List (Int × Int)) (P : Pair) (m : Int), (mendAll pg bs P m).2.2 ≠ 50
  | [], P, m => by simp [mendAll]
  | b :: l, P, m => by
    rw [mendAll]
    split
    · exact mend_codes pg l _ _
    · show P.putE b.1.toNat b.2 ≠ 50
      unfold Pair.putE
      split
      · unfold Disk.writeE Disk.asked
        repeat' split
        all_goals omega
      · omega

/-! ### what a look answers -/
theorem asked_codes (P : Pair) (x : Ptr) : P.asked x = 100 ∨ P.asked x = 2 ∨ P.asked x = 30 ∨ P.asked x = 0 := by
  unfold Pair.asked
  repeat' split
  all_goals simp
theorem asked_right {P : Pair} {x : Ptr} (h : P.asked x = 0) : P.down = false ∧ x.right P.size = true := by
  unfold Pair.asked at h
  split at h
  · cases h
  · rename_i h1
    split at h
    · cases h
    · rename_i h2
      exact ⟨by simpa using h1, by simpa using h2⟩
theorem found_on {P : Pair} {x : Ptr} {c : Int × Int} (h : c ∈ P.found x) : onPair c := by
  have h1 : c ∈ x.copies := (List.mem_filter.1 h).1
  unfold Ptr.copies at h1
  unfold onPair
  split at h1 <;> simp at h1 <;> rcases h1 with rfl | rfl | rfl | rfl <;> simp
theorem seen_all (P : Pair) (x : Ptr) : P.seen x true = P.found x := by
  unfold Pair.seen
  rw [lookN_done _ _ _ (fun h => by cases h), List.take_length]
theorem pageIn_fits {P : Pair} {x : Ptr} {ys : List (Int × Int)} (h : ys.any (P.isRight x) = true) : x.fits (P.pageIn x ys) = true := by
  unfold Pair.pageIn
  obtain ⟨y, hy, hr⟩ := List.any_eq_true.1 h
  cases hf : ys.find? (P.isRight x) with
  | none => have := List.find?_eq_none.1 hf y hy; simp [hr] at this
  | some z =>
    have := List.find?_some hf
    unfold Pair.isRight at this
    rw [Bool.and_eq_true] at this
    exact this.2
theorem right_read {P : Pair} {x : Ptr} {c : Int × Int} (h : P.isRight x c = true) : ((P.disk c.1.toNat).read c.2).2 = 0 ∧ x.fits ((P.disk c.1.toNat).read c.2).1 = true := by
  unfold Pair.isRight at h
  rw [Bool.and_eq_true] at h
  exact ⟨by simpa using h.1, h.2⟩

/-- a scan's answer -/
structure ScanOk (P : Pair) (x : Ptr) : Prop where
  page : x.fits (P.look x true).1 = true
  bad : ∀ c ∈ P.bad x, ((P.look x true).2.1.disk c.1.toNat).read c.2 = ((P.look x true).1, 0)
  all : ∀ c ∈ P.found x, (((P.look x true).2.1.disk c.1.toNat).read c.2).2 = 0 ∧ x.fits (((P.look x true).2.1.disk c.1.toNat).read c.2).1 = true
  mended : (P.look x true).2.2.1.m = (P.bad x).length
  nbad : (P.look x true).2.2.1.b = (P.bad x).length
  nread : (P.look x true).2.2.1.r = (P.found x).length
  asked : P.asked x = 0
  some : (P.found x).any (P.isRight x) = true
theorem bad_eq {P : Pair} {x : Ptr} (h : P.asked x = 0) : P.bad x = P.badIn x (P.found x) := by
  unfold Pair.bad Pair.bads Pair.badIn
  rw [if_pos (asked_right h).2]
theorem look_true {P : Pair} {x : Ptr} (h : P.asked x = 0) : P.look x true = lookEnd (P.pageIn x (P.found x)) (P.bad x) P (P.found x).length (P.bad x).length ((P.found x).any (P.isRight x)) := by
  rw [look_of_seen h (seen_all P x), bad_eq h]
theorem scan_ok {P : Pair} {x : Ptr} (h : (P.look x true).2.2.2 = 0) : ScanOk P x := by
  have ha : P.asked x = 0 := by
    by_cases ha : P.asked x = 0
    · exact ha
    · unfold Pair.look at h
      rw [if_pos ha] at h
      exact h
  have hb := bad_eq ha
  have hl := look_true ha
  cases hs : (P.found x).any (P.isRight x) with
  | false =>
    rw [hl, hs] at h
    unfold lookEnd at h
    simp at h
  | true =>
    have hm : (mendAll (P.pageIn x (P.found x)) (P.bad x) P 0).2.2 = 0 := by
      rw [hl, hs] at h
      unfold lookEnd at h
      simp only [if_true] at h
      split at h
      · assumption
      · rename_i hne; exact (hne h).elim
    have hl2 : P.look x true = (P.pageIn x (P.found x), (mendAll (P.pageIn x (P.found x)) (P.bad x) P 0).1, ⟨(P.found x).length, (P.bad x).length, (mendAll (P.pageIn x (P.found x)) (P.bad x) P 0).2.1⟩, 0) := by
      rw [hl, hs]
      unfold lookEnd
      rw [if_pos rfl, if_pos hm]
    have hon : ∀ c ∈ P.bad x, onPair c := fun c hc => by
      rw [hb] at hc
      exact found_on (List.mem_filter.1 hc).1
    obtain ⟨m1, m2, m3⟩ := mend_read (P.pageIn x (P.found x)) (P.bad x) P 0 hon hm
    have hpf := pageIn_fits hs
    refine ⟨by rw [hl2]; exact hpf, fun c hc => by rw [hl2]; exact m1 c (hon c hc) hc, fun c hc => ?_, by rw [hl2]; simp [m3], by rw [hl2], by rw [hl2], ha, hs⟩
    rw [hl2]
    by_cases hcb : c ∈ P.bad x
    · rw [show ((mendAll (P.pageIn x (P.found x)) (P.bad x) P 0).1.disk c.1.toNat).read c.2 = (P.pageIn x (P.found x), 0) from m1 c (hon c hcb) hcb]
      exact ⟨rfl, hpf⟩
    · rw [show ((mendAll (P.pageIn x (P.found x)) (P.bad x) P 0).1.disk c.1.toNat).read c.2 = (P.disk c.1.toNat).read c.2 from m2 c (found_on hc) hcb]
      apply right_read
      cases hr : P.isRight x c with
      | true => rfl
      | false => exact (hcb (by rw [hb]; exact List.mem_filter.2 ⟨hc, by simp [hr]⟩)).elim
/-- where no copy is right -/
theorem scan_corrupt {P : Pair} {x : Ptr} (h : (P.look x true).2.2.2 = 50) : (P.look x true).2.2.1.r = (P.bad x).length ∧ (P.look x true).2.2.1.b = (P.look x true).2.2.1.r ∧ P.asked x = 0 ∧ (P.found x).any (P.isRight x) = false ∧ P.look x true = (noPage, P, ⟨(P.found x).length, (P.bad x).length, 0⟩, 50) := by
  have ha : P.asked x = 0 := by
    by_cases ha : P.asked x = 0
    · exact ha
    · unfold Pair.look at h
      rw [if_pos ha] at h
      have h2 : P.asked x = 50 := h
      rcases asked_codes P x with e | e | e | e <;> rw [e] at h2 <;> omega
  have hb := bad_eq ha
  have hl := look_true ha
  cases hs : (P.found x).any (P.isRight x) with
  | true =>
    exfalso
    rw [hl, hs] at h
    unfold lookEnd at h
    rw [if_pos rfl] at h
    split at h
    · cases h
    · exact mend_codes _ _ _ _ h
  | false =>
    have hbl : P.bad x = P.found x := by
      rw [hb]
      unfold Pair.badIn
      rw [List.filter_eq_self]
      intro c hc
      have := List.any_eq_false.1 hs c hc
      simpa using this
    have hl2 : P.look x true = (noPage, P, ⟨(P.found x).length, (P.bad x).length, 0⟩, 50) := by
      rw [hl, hs]
      unfold lookEnd
      rw [if_neg Bool.false_ne_true, pageIn_none hs]
    refine ⟨by rw [hl2, hbl], by rw [hl2, hbl], ha, rfl, hl2⟩
end Suture
/-
  suturelaw11.FetchBad: just the bad copies are written by a scan, each with the page; the regions that draw their order.
  Conditions: none beyond the pair's own reading.
-/
namespace Suture
open Go Go.RowKit Go.Proofs
attribute [local go_sem] Oper.semAt_some

theorem keyable_two : Keyable Try.prog 2 55 := ⟨by decide, by kernel_rfl, by kernel_rfl, by kernel_rfl⟩
theorem keyed_two (c : Int × Int) (h : in64 c.1 ∧ in64 c.2) : Keyed Try.prog 2 55 (copyL c).toArray :=
  keyed_ints Try.underlying55 Try.underlying3 (by kernel_rfl) (by kernel_rfl) _ rfl (fun i hi => by
    simp only [in64] at h
    have : i = 0 ∨ i = 1 := by omega
    rcases this with rfl | rfl
    · exact ⟨c.1, rfl, by simp [Lit.wf, IntKind.min, IntKind.max, IntKind.signed, IntKind.bits]; omega⟩
    · exact ⟨c.2, rfl, by simp [Lit.wf, IntKind.min, IntKind.max, IntKind.signed, IntKind.bits]; omega⟩)
theorem twoEq_of {c c' : Int × Int} {r : Bool} (h : r = true ↔ (copyL c).toArray = (copyL c').toArray) : r = (c == c') := by
  obtain ⟨a, b⟩ := c
  obtain ⟨a', b'⟩ := c'
  have h2 : r = true ↔ ((a, b) == (a', b')) = true := by
    rw [h]
    simp [copyL]
  cases r <;> cases hq : ((a, b) == (a', b')) <;> simp_all

def vFb13 (pb d g cap nc i : Nat) (ov : PV) (at' : Int) (q : List (BitVec 8)) : Nat → Value → Prop
  | 0, val => val = .slice (some ⟨g, 0, none⟩) nc cap
  | 1, val => val = .int .i64 (i : Int)
  | 2, val => val = .pointer (some ⟨g, 0 + i * 2, none⟩)
  | 3, val => val = .pointer (some ⟨g, 0 + i * 2 + 0 * 1, none⟩)
  | 4, val => val = .int .i64 (d : Int)
  | 5, val => val = .pointer (some ⟨pb, 0, none⟩)
  | 6, val => val = .pointer (some ⟨pb, d * 4, none⟩)
  | 7, val => val = .agg (ov.disk d).cells
  | 8, val => val = .slice (some ⟨g, 0, none⟩) nc cap
  | 9, val => val = .int .i64 (i : Int)
  | 10, val => val = .pointer (some ⟨g, 0 + i * 2, none⟩)
  | 11, val => val = .pointer (some ⟨g, 0 + i * 2 + 1 * 1, none⟩)
  | 12, val => val = .int .i64 at'
  | 13, val => val = .tuple #[.agg (pageCells q), .int .i64 0]
  | 14, val => val = .tuple #[.agg (pageCells q), .int .i64 0]
  | 15, val => val = .agg (pageCells q)
  | 16, val => val = .int .i64 0
  | 17, val => ∃ b, val = .pointer (some ⟨b, 0, none⟩)
  | 18, val => val = undef
  | 19, val => val = .int .i64 0
  | _, _ => True
def vFb16t (g cap nc i gl nl lc n : Nat) (cl cc : Int × Int) : Nat → Value → Prop
  | 0, val => val = .int .i64 (n : Int)
  | 1, val => val = .slice (some ⟨gl, 0, none⟩) nl lc
  | 2, val => val = .int .i64 (nl : Int)
  | 3, val => val = .bool true
  | 4, val => val = .bool true
  | 5, val => val = .slice (some ⟨gl, 0, none⟩) nl lc
  | 6, val => val = .int .i64 (n : Int)
  | 7, val => val = .pointer (some ⟨gl, 0 + n * 2, none⟩)
  | 8, val => val = .agg (copyL cl).toArray
  | 9, val => val = .slice (some ⟨g, 0, none⟩) nc cap
  | 10, val => val = .int .i64 (i : Int)
  | 11, val => val = .pointer (some ⟨g, 0 + i * 2, none⟩)
  | 12, val => val = .agg (copyL cc).toArray
  | 13, val => val = .bool (cl == cc)
  | 14, val => val = .bool (cl == cc)
  | _, _ => True
def vFb16f (nl lc n : Nat) (la : Option Addr) : Nat → Value → Prop
  | 0, val => val = .int .i64 (n : Int)
  | 1, val => val = .slice la nl lc
  | 2, val => val = .int .i64 (nl : Int)
  | 3, val => val = .bool false
  | 4, val => val = .bool false
  | 5, val => val = undef
  | 6, val => val = undef
  | 7, val => val = undef
  | 8, val => val = undef
  | 9, val => val = undef
  | 10, val => val = undef
  | 11, val => val = undef
  | 12, val => val = undef
  | 13, val => val = undef
  | 14, val => val = .bool false
  | _, _ => True
end Suture
/-
  suturelaw11.FetchBad answers true: just the bad copies are written by a scan, each with the page, and all copies on attached disks read as it behind it.
  Conditions: none beyond the pair's own reading.
-/
namespace Suture
open Go Go.RowKit Go.Proofs
attribute [local go_sem] Oper.semAt_some

theorem great_low {P : Pair} (h : P.great = false) : P.low := by
  unfold Pair.great Disk.great at h
  simp only [Bool.or_eq_false_iff, decide_eq_false_iff_not] at h
  constructor <;> omega

theorem list_rows {W : World} {base : Nat} {l : Value} {bads : List (Int × Int)} (h : W.ownsRow base 55 2 l bads.length (bads.map copyL).flatten) :
    ∃ la cap, l = .slice la bads.length cap ∧ ∀ i, i < bads.length → ∃ g cur, la = some ⟨g, 0, none⟩ ∧ W.heap[g]? = some (.cells cur 55 (0, 0)) ∧ ∀ i, i < bads.length → ∀ j, j < 2 → cur[i * 2 + j]? = (copyL (bads.getD i (0, 0))).toArray[j]? := by
  obtain ⟨hxs, hcase⟩ := h
  rcases hcase with ⟨rfl, hn⟩ | ⟨g, cap, cur, rfl, hg0, hgr, hcap, hmax, hcs, hct⟩
  · exact ⟨none, 0, by rw [hn], fun i hi => by omega⟩
  · refine ⟨_, cap, rfl, fun _ _ => ⟨g, cur, rfl, hgr, fun i hi j hj => ?_⟩⟩
    rw [← Array.getElem?_toList, ← Array.getElem?_toList, List.toList_toArray, ← flat_two bads i hi j hj, ← hct, List.getElem?_take_of_lt (by omega)]
/-- a copy that is bad -/
def Pair.bd (P : Pair) (x : Ptr) (c : Int × Int) : Bool := !P.isRight x c && P.lives c
theorem bad_bd {P : Pair} {x : Ptr} (h : P.asked x = 0) : P.bad x = x.copies.filter (P.bd x) := by
  rw [bad_eq h]
  unfold Pair.badIn Pair.found
  rw [List.filter_filter]; rfl

set_option maxHeartbeats 8000000 in
set_option maxRecDepth 100000 in
theorem fetchBad_calls (v : PV) (P : Pair) (x : Ptr) (hx : x.ok) (w : World) (hv : PairAt All w v P) :
    Calls Try.prog 7 #[.agg v.cells, .agg x.cells] w fun e w' => e = .returned (.bool true) ∧ Agrees All w w' := by
  obtain ⟨W1, hW1⟩ : ∃ W1, w.alloc (.cells v.cells 40) = W1 := ⟨_, rfl⟩
  obtain ⟨W2, hW2⟩ : ∃ W2, W1.alloc (.cells x.cells 48) = W2 := ⟨_, rfl⟩
  have hs1 : W1.heap.size = w.heap.size + 1 := by rw [← hW1]; simp
  have hA2 : Agrees All w W2 := by rw [← hW2, ← hW1]; exact ((Agrees.refl _ w).alloc _).alloc _
  have HR0 := Lib.hid (show W2.heap[w.heap.size]? = some (.cells v.cells 40 (0, 0)) by rw [← hW2, ← hW1]; exact row_old (row_new _ rfl))
  have HR1 := Lib.hid (show W2.heap[w.heap.size + 1]? = some (.cells x.cells 48 (0, 0)) by rw [← hW2]; exact row_new _ hs1)
  have HG := Lib.hid (great_calls v P W2 (hv.agrees hA2 fun _ h => h))
  have HV := Lib.hid hv
  have HA2 := Lib.hid hA2
  clear hv hA2
  go_enter Try.func7, Try.ntmps7
  go_wp2_with (refine wpList_val rfl (ex_load (ty := 40) rfl isAgg_pair w.heap.size 0 rfl v.cells rfl (v.load HR0.out)) ?_)
  refine HG.out.mono ?_
  rintro e W3 ⟨rfl, hag⟩
  have HA3 := Lib.hid (HA2.out.trans hag)
  have HQ0 := Lib.hid ((hag.block _ (Array.getElem?_eq_some_iff.1 HR0.out).1 trivial).trans HR0.out)
  have HQ1 := Lib.hid ((hag.block _ (Array.getElem?_eq_some_iff.1 HR1.out).1 trivial).trans HR1.out)
  clear hag HR0 HR1 HG HA2 hW1 hW2 hs1
  cases hgr : P.great
  · have HLOW := Lib.hid (great_low hgr)
    have HB := Lib.hid (bad_calls v P x hx W3 (HV.out.agrees HA3.out fun _ h => h) (HV.out.small HLOW.out))
    clear hgr
    go_wp2_with (first
      | (refine wpList_val rfl (ex_load (ty := 40) rfl isAgg_pair w.heap.size 0 rfl v.cells rfl (v.load HQ0.out)) ?_)
      | (refine wpList_val rfl (ex_load (ty := 48) rfl isAgg_ptr (w.heap.size + 1) 0 rfl x.cells rfl (x.load HQ1.out)) ?_))
    refine HB.out.mono ?_
    rintro e W4 ⟨u, rfl, hu, hag⟩
    have HA4 := Lib.hid (HA3.out.trans hag)
    have HR0 := Lib.hid ((hag.block _ (Array.getElem?_eq_some_iff.1 HQ0.out).1 trivial).trans HQ0.out)
    have HR1 := Lib.hid ((hag.block _ (Array.getElem?_eq_some_iff.1 HQ1.out).1 trivial).trans HQ1.out)
    have HU4 := Lib.hid hu
    have HSC := Lib.hid (fscan_calls All v P x hx W4 (HV.out.agrees HA4.out fun _ h => h) HLOW.out)
    clear hu hag HA3 HQ0 HQ1 HB
    go_wp2_with (first
      | (refine wpList_val rfl (ex_load (ty := 40) rfl isAgg_pair w.heap.size 0 rfl v.cells rfl (v.load HR0.out)) ?_)
      | (refine wpList_val rfl (ex_load (ty := 48) rfl isAgg_ptr (w.heap.size + 1) 0 rfl x.cells rfl (x.load HR1.out)) ?_))
    refine HSC.out.mono ?_
    rintro e W5 ⟨ov, rfl, hov, hag⟩
    have HLL := Lib.hid (P.look_len x true fun c => Disk.read_len _ (HV.out.disk _).ok _)
    have HOK : RowKit.Hid ((P.look x true).2.2.2 = 0 → ScanOk P x) := Lib.hid scan_ok
    have HCO : RowKit.Hid ((P.look x true).2.2.2 = 50 → (P.look x true).2.2.1.r = (P.bad x).length) := Lib.hid fun h => (scan_corrupt h).1
    obtain ⟨A1, A2, A3, S1, S2, W6, hA1, hA2, hA3, hS1, hS2, hS3, hsA1, hsA2, hz1, hz2, hz3, hr6, hr7, hr8, hg6⟩ := box_new3 W5 (pageCells noPage) PV.zero.cells (Tal.mk 0 0 0).cells (pageCells (P.look x true).1) ov.cells (P.look x true).2.2.1.cells 32 40 57
    have hg := hag.trans hg6
    have HZ1 := Lib.hid hz1
    have HZ2 := Lib.hid hz2
    have HZ3 := Lib.hid hz3
    have HR6 := Lib.hid hr6
    have HR7 := Lib.hid hr7
    have HR8 := Lib.hid hr8
    have HOV := Lib.hid (hov.agrees hg6 fun _ _ => trivial)
    have HA6 := Lib.hid (HA4.out.trans hg)
    have HQ0 := Lib.hid ((hg.block _ (Array.getElem?_eq_some_iff.1 HR0.out).1 trivial).trans HR0.out)
    have HQ1 := Lib.hid ((hg.block _ (Array.getElem?_eq_some_iff.1 HR1.out).1 trivial).trans HR1.out)
    have HU6 := Lib.hid (ownsRow_agrees HU4.out hg fun _ _ => trivial)
    have HPN := Lib.hid (show (pageCells noPage).size = 256 by rw [pageCells_size]; exact noPage_len)
    have HPG := Lib.hid (show (pageCells (P.look x true).1).size = 256 by rw [pageCells_size]; exact HLL.out)
    obtain ⟨la, lc, rfl⟩ := own_slice HU6.out
    clear hz1 hz2 hz3 hr6 hr7 hr8 hg6 hg hag hov HR0 HR1 HA4 HU4 HSC
    generalize hlk : P.look x true = r at *
    obtain ⟨pg, OP, tl, er⟩ := r
    simp only at HLL HOK HCO HPG HOV HR6 HR8 hS1 hS3 ⊢
    by_cases he : er = 0
    · subst he
      go_wp2_with (first
        | (refine wpList_val rfl (ex_alloc rfl (.agg (pageCells noPage)) zero_page) ?_; rw [show (Value.agg (pageCells noPage)).cells = pageCells noPage from rfl, hA1])
        | (refine wpList_val rfl (ex_alloc rfl (.agg PV.zero.cells) zero_pair) ?_; rw [show (Value.agg PV.zero.cells).cells = PV.zero.cells from rfl, hA2, hsA1])
        | (refine wpList_val rfl (ex_alloc rfl (.agg (Tal.mk 0 0 0).cells) zero_tally) ?_; rw [show (Value.agg (Tal.mk 0 0 0).cells).cells = (Tal.mk 0 0 0).cells from rfl, hA3, hsA2])
        | (refine wpList_unit rfl (ex_storeAll (ty := 32) rfl isAgg_page.2 W5.heap.size rfl (pageCells pg) (pageCells noPage) rfl HPG.out HZ1.out HPN.out (pageCells_one _)) ?_; rw [hS1])
        | (refine wpList_unit rfl (ex_storeAll (ty := 40) rfl isAgg_pair.2 (W5.heap.size + 1) rfl ov.cells PV.zero.cells rfl rfl HZ2.out rfl (PV.one _)) ?_; rw [hS2])
        | (refine wpList_unit rfl (ex_storeAll (ty := 57) rfl isAgg_tally.2 (W5.heap.size + 1 + 1) rfl tl.cells (Tal.mk 0 0 0).cells rfl rfl HZ3.out rfl (Tal.one _)) ?_; rw [hS3])
        | (refine wpList_val rfl (ex_load (ty := 48) rfl isAgg_ptr (w.heap.size + 1) 0 rfl x.cells rfl (x.load HQ1.out)) ?_))
      have hS := HOK.out trivial
      have hbd := bad_bd hS.asked
      have HS := Lib.hid hS
      have HBD := Lib.hid hbd
      refine (rcopies_calls x hx W6).mono ?_
      rintro e W7 ⟨cu, rfl, hcu, hag⟩
      have hpos := copies_pos x
      have hle := copies_le x
      obtain ⟨ca, cap, rfl, hcr⟩ := list_rows hcu
      obtain ⟨g, cur, rfl, hgr, hcur⟩ := hcr 0 (by omega)
      have HGR := Lib.hid hgr
      have HCU := Lib.hid hcur
      have hll := ownsRow_agrees HU6.out hag fun _ _ => trivial
      obtain ⟨la', lc', hle', hlr⟩ := list_rows hll
      simp only [Value.slice.injEq, true_and] at hle'
      obtain ⟨rfl, rfl⟩ := hle'
      have HLR := Lib.hid hlr
      have HT0 := Lib.hid ((hag.block _ (Array.getElem?_eq_some_iff.1 HQ0.out).1 trivial).trans HQ0.out)
      have HT1 := Lib.hid ((hag.block _ (Array.getElem?_eq_some_iff.1 HQ1.out).1 trivial).trans HQ1.out)
      have HT6 := Lib.hid ((hag.block _ (Array.getElem?_eq_some_iff.1 HR6.out).1 trivial).trans HR6.out)
      have HT7 := Lib.hid ((hag.block _ (Array.getElem?_eq_some_iff.1 HR7.out).1 trivial).trans HR7.out)
      have HT8 := Lib.hid ((hag.block _ (Array.getElem?_eq_some_iff.1 HR8.out).1 trivial).trans HR8.out)
      have HOV7 := Lib.hid (HOV.out.agrees hag fun _ _ => trivial)
      have HA7 := Lib.hid (HA6.out.trans hag)
      have HLM : RowKit.Hid (tl.m = ((P.bad x).length : Int)) := Lib.hid (by have := hS.mended; rw [hlk] at this; exact this)
      have HNL := Lib.hid (congrArg List.length hbd)
      have HNC : RowKit.Hid (x.copies.length ≤ 4 ∧ 0 < x.copies.length) := ⟨hle, hpos⟩
      clear hcu hag hcr hgr hcur hll hlr hA1 hA2 hA3 hS1 hS2 hS3 hsA1 hsA2 HZ1 HZ2 HZ3 HR6 HR7 HR8 HQ0 HQ1 HU6 HOV HA6 hbd hS hle hpos HCO HOK
      generalize hncd : x.copies.length = nc at *
      generalize hnld : (P.bad x).length = nl at *
      have hnc4 : nc ≤ 4 := HNC.out.1
      have hnl4 : nl ≤ 4 := by have := HNL.out; rw [this]; exact Nat.le_trans (List.length_filter_le _ _) (by rw [hncd]; exact hnc4)
      go_wp2_with fail
      go_loopw [11, 12] (fun nn ii wr => ∃ i : Nat, i ≤ nc ∧ ii = .int .i64 i ∧ nn = .int .i64 (((x.copies.take i).filter (P.bd x)).length : Nat) ∧ RowKit.Hid (Agrees All W7 wr)) (fun _ ii _ => nc - (intOf ii).toNat)
      case atStart => exact ⟨0, by omega, rfl, rfl, Lib.hid (Agrees.refl _ _)⟩
      case round =>
        obtain ⟨i, hi, rfl, rfl, HW⟩ := hrel
        by_cases hlt : i < nc
        · obtain ⟨cc, hcc⟩ : ∃ cc, x.copies.getD i (0, 0) = cc := ⟨_, rfl⟩
          have hmem : cc ∈ x.copies := by rw [← hcc, List.getD_eq_getElem?_getD, List.getElem?_eq_getElem (by rw [hncd]; exact hlt)]; exact List.getElem_mem _
          have hsuc : (x.copies.take (i + 1)).filter (P.bd x) = (x.copies.take i).filter (P.bd x) ++ (if P.bd x cc then [cc] else []) := by
            rw [List.take_succ_eq_append_getElem (by rw [hncd]; exact hlt), List.filter_append]
            have : x.copies[i] = cc := by rw [← hcc, List.getD_eq_getElem?_getD, List.getElem?_eq_getElem (by rw [hncd]; exact hlt)]; rfl
            rw [this, List.filter_cons, List.filter_nil]
          have hfa := found_at x (P.bd x) i (by rw [hncd]; exact hlt)
          rw [hcc, ← HBD.out] at hfa
          have hcell : ∀ j, j < 2 → wr.cell? ⟨g, i * 2 + j, none⟩ = (copyL cc).toArray[j]? := fun j hj => by
            rw [cell_of_row _ _ _ _ _ _ ((HW.out.block _ (Array.getElem?_eq_some_iff.1 HGR.out).1 trivial).trans HGR.out), HCU.out i (by omega) j hj, hcc]
          obtain ⟨hdk, h0a, h1a⟩ := copies_mem x hx cc hmem
          obtain ⟨dk, at'⟩ := cc
          simp only at hdk h0a h1a
          obtain ⟨d, rfl⟩ : ∃ d : Nat, dk = d := ⟨dk.toNat, by omega⟩
          have hd2 : d < 2 := by omega
          have k0 : wr.cell? ⟨g, i * 2, none⟩ = some (.int .i64 (d : Int)) := hcell 0 (by omega)
          have hr0 := (HW.out.block _ (Array.getElem?_eq_some_iff.1 HT0.out).1 trivial).trans HT0.out
          have hof : wr.cell? ⟨w.heap.size, d * 4 + 3, none⟩ = some (.bool (P.disk d).off) := by
            rw [v.loadDisk hr0 d hd2 3 (by omega), (HV.out.disk d).off]; rfl
          have HLV : RowKit.Hid (P.lives ((d : Int), at') = !(P.disk d).off) := Lib.hid (by unfold Pair.lives; rw [Int.toNat_natCast])
          have HCELL := Lib.hid hcell
          have HSUC := Lib.hid hsuc
          have HFA := Lib.hid hfa
          have HMEM := Lib.hid hmem
          have HRR0 := Lib.hid hr0
          have HCC := Lib.hid hcc
          have HCNT : RowKit.Hid (((x.copies.take i).filter (P.bd x)).length ≤ 4) := Lib.hid (Nat.le_trans (List.length_filter_le _ _) (by rw [List.length_take]; omega))
          clear hcell hsuc hfa hmem hr0 hcc hdk
          generalize hcnt : ((x.copies.take i).filter (P.bd x)).length = n at *
          have HN := Lib.hid hcnt
          clear hcnt
          generalize hoff : (P.disk d).off = off at *
          cases off
          · have hfnd : ((d : Int), at') ∈ P.found x := List.mem_filter.2 ⟨HMEM.out, by rw [HLV.out]; rfl⟩
            have hall := HS.out.all _ hfnd
            rw [hlk] at hall
            simp only [Int.toNat_natCast] at hall
            obtain ⟨q, hq⟩ : ∃ q, (OP.disk d).read at' = (q, 0) := ⟨_, Prod.ext rfl hall.1⟩
            rw [hq] at hall
            have hql : q.length = 256 := by
              have := Disk.read_len (OP.disk d) (HOV7.out.disk d).ok at'
              rw [hq] at this; exact this
            have HFQ : RowKit.Hid (x.fits q = true) := Lib.hid hall.2
            have HQB : RowKit.Hid (P.bd x ((d : Int), at') = true → q = pg) := by
              refine Lib.hid (fun hb => ?_)
              have := HS.out.bad ((d : Int), at') (by rw [HBD.out]; exact List.mem_filter.2 ⟨HMEM.out, hb⟩)
              rw [hlk] at this
              simp only [Int.toNat_natCast] at this
              rw [hq] at this
              exact (Prod.ext_iff.1 this).1
            obtain ⟨W0, hW0⟩ : ∃ W0, wr.drew = W0 := ⟨_, rfl⟩
            have hA0 : Agrees All wr W0 := by rw [← hW0]; exact (Agrees.refl _ _).drew
            have HRD : RowKit.Hid (∀ W', Agrees All W0 W' → Calls Try.prog 26 #[.agg (ov.disk d).cells, .int .i64 at'] W' fun e w' => e = .returned (.tuple #[.agg (pageCells q), .int .i64 0]) ∧ Agrees All W' w') := by
              refine Lib.hid (fun W' h => ?_)
              have := rread_calls (ov.disk d) (OP.disk d) at' W' (((HOV7.out.disk d).agrees (HW.out.trans (hA0.trans h)) fun _ _ => trivial).mono fun _ _ => trivial)
              rw [hq] at this
              exact this
            have hagW := HW.out.trans hA0
            have HORR := Lib.hid ((hagW.block _ (Array.getElem?_eq_some_iff.1 HT7.out).1 trivial).trans HT7.out)
            have HPP0 := Lib.hid hql
            have HC0 : RowKit.Hid (∀ j, j < 2 → W0.cell? ⟨g, 0 + i * 2 + j, none⟩ = (copyL ((d : Int), at')).toArray[j]?) := Lib.hid fun j hj => by
              rw [Nat.zero_add, ← HCELL.out j hj, ← hW0]; rfl
            have HGL : RowKit.Hid (g < W0.heap.size) := Lib.hid (Array.getElem?_eq_some_iff.1 ((hagW.block _ (Array.getElem?_eq_some_iff.1 HGR.out).1 trivial).trans HGR.out)).1
            have HA0 := Lib.hid hA0
            clear hall hfnd hq hql hA0 hagW HCELL
            go_wp2_with fail
            have hor := HORR.out
            have hpl := HPP0.out
            have hgl := HGL.out
            have hc0 := HC0.out 0 (by omega)
            have hc1 := HC0.out 1 (by omega)
            refine wp_region_plan (by kernel_rfl) ?hok13 (by kernel_rfl) (vFb13 (W5.heap.size + 1) d g cap nc i ov at' q) (Boxed W0 [⟨17, 18, 32, pageCells noPage, pageCells q⟩]) ?h013 (fun k hk => ?steps13) ?hend13
            case hok13 => kernel_rfl
            case h013 => exact fun vals => by rw [hW0]; exact Boxed.start
            case steps13 =>
              generalize W5.heap.size + 1 = pb at *
              have hk' : k < 20 := hk
              match k, hk' with
                | 0, _ =>
                  refine steps_of rfl ?_
                  intro L aq wq hL hd st wi
                  have o10 := st.outside (t := 10) rfl (v := .slice (some ⟨g, 0, none⟩) nc cap) rfl
                  exact opTo_val (v := .slice (some ⟨g, 0, none⟩) nc cap) rfl (ex_move (.inl rfl) (eval_tmp o10)) ⟨(fun h => by cases h), rfl, wi.other rfl _⟩
                | 1, _ =>
                  refine steps_of rfl ?_
                  intro L aq wq hL hd st wi
                  have o12 := st.outside (t := 12) rfl (v := .int .i64 (i : Int)) rfl
                  exact opTo_val (v := .int .i64 (i : Int)) rfl (ex_move (.inl rfl) (eval_tmp o12)) ⟨(fun h => by cases h), rfl, wi.other rfl _⟩
                | 2, _ =>
                  refine steps_of rfl ?_
                  intro L aq wq hL hd st wi
                  obtain ⟨u0, e0, V0⟩ := st.val 0 _ _ rfl rfl (hd ⟨0, .data⟩ (by simp) rfl)
                  obtain rfl : .slice (some ⟨g, 0, none⟩) nc cap = u0 := V0.symm
                  obtain ⟨u1, e1, V1⟩ := st.val 1 _ _ rfl rfl (hd ⟨1, .data⟩ (by simp) rfl)
                  obtain rfl : .int .i64 (i : Int) = u1 := V1.symm
                  exact opTo_val (v := .pointer (some ⟨g, 0 + i * 2, none⟩)) rfl (ex_idx rfl Try.underlying52 isAgg_two.2 g 0 nc cap i (eval_tmp e0) (eval_tmp e1) hlt) ⟨(fun h => by cases h), rfl, wi.other rfl _⟩
                | 3, _ =>
                  refine steps_of rfl ?_
                  intro L aq wq hL hd st wi
                  obtain ⟨u2, e2, V2⟩ := st.val 2 _ _ rfl rfl (hd ⟨2, .data⟩ (by simp) rfl)
                  obtain rfl : .pointer (some ⟨g, 0 + i * 2, none⟩) = u2 := V2.symm
                  exact opTo_val (v := .pointer (some ⟨g, 0 + i * 2 + 0 * 1, none⟩)) rfl (ex_idxArr rfl Try.underlying55 oneInt.2 g (0 + i * 2) 0 (eval_tmp e2) rfl (by omega)) ⟨(fun h => by cases h), rfl, wi.other rfl _⟩
                | 4, _ =>
                  refine steps_of rfl ?_
                  intro L aq wq hL hd st wi
                  obtain ⟨u3, e3, V3⟩ := st.val 3 _ _ rfl rfl (hd ⟨3, .data⟩ (by simp) rfl)
                  obtain rfl : .pointer (some ⟨g, 0 + i * 2 + 0 * 1, none⟩) = u3 := V3.symm
                  exact opTo_val (v := .int .i64 (d : Int)) rfl (ex_load1 rfl oneInt (eval_tmp e3) ((wi.ag.cell (p := ⟨g, 0 + i * 2 + 0 * 1, none⟩) hgl trivial).trans hc0)) ⟨(fun h => by cases h), rfl, wi.other rfl _⟩
                | 5, _ =>
                  refine steps_of rfl ?_
                  intro L aq wq hL hd st wi
                  have o7 := st.outside (t := 7) rfl (v := .pointer (some ⟨pb, 0, none⟩)) rfl
                  exact opTo_val (v := .pointer (some ⟨pb, 0, none⟩)) rfl (by simp [go_sem, Act.eval, o7]) ⟨(fun h => by cases h), rfl, wi.other rfl _⟩
                | 6, _ =>
                  refine steps_of rfl ?_
                  intro L aq wq hL hd st wi
                  obtain ⟨u5, e5, V5⟩ := st.val 5 _ _ rfl rfl (hd ⟨5, .data⟩ (by simp) rfl)
                  obtain rfl : .pointer (some ⟨pb, 0, none⟩) = u5 := V5.symm
                  obtain ⟨u4, e4, V4⟩ := st.val 4 _ _ rfl rfl (hd ⟨4, .data⟩ (by simp) rfl)
                  obtain rfl : .int .i64 (d : Int) = u4 := V4.symm
                  exact opTo_val (v := .pointer (some ⟨pb, d * 4, none⟩)) rfl (by have := hd2; simp [go_sem, Act.eval, e4, e5]; omega) ⟨(fun h => by cases h), rfl, wi.other rfl _⟩
                | 7, _ =>
                  refine steps_of rfl ?_
                  intro L aq wq hL hd st wi
                  obtain ⟨u6, e6, V6⟩ := st.val 6 _ _ rfl rfl (hd ⟨6, .data⟩ (by simp) rfl)
                  obtain rfl : .pointer (some ⟨pb, d * 4, none⟩) = u6 := V6.symm
                  exact opTo_val (v := .agg (ov.disk d).cells) rfl (ex_load rfl isAgg_disk pb (d * 4) (eval_tmp e6) (ov.disk d).cells rfl (ov.loadDisk ((wi.ag.block _ (Array.getElem?_eq_some_iff.1 hor).1 trivial).trans hor) d hd2)) ⟨(fun h => by cases h), rfl, wi.other rfl _⟩
                | 8, _ =>
                  refine steps_of rfl ?_
                  intro L aq wq hL hd st wi
                  have o10 := st.outside (t := 10) rfl (v := .slice (some ⟨g, 0, none⟩) nc cap) rfl
                  exact opTo_val (v := .slice (some ⟨g, 0, none⟩) nc cap) rfl (ex_move (.inl rfl) (eval_tmp o10)) ⟨(fun h => by cases h), rfl, wi.other rfl _⟩
                | 9, _ =>
                  refine steps_of rfl ?_
                  intro L aq wq hL hd st wi
                  have o12 := st.outside (t := 12) rfl (v := .int .i64 (i : Int)) rfl
                  exact opTo_val (v := .int .i64 (i : Int)) rfl (ex_move (.inl rfl) (eval_tmp o12)) ⟨(fun h => by cases h), rfl, wi.other rfl _⟩
                | 10, _ =>
                  refine steps_of rfl ?_
                  intro L aq wq hL hd st wi
                  obtain ⟨u8, e8, V8⟩ := st.val 8 _ _ rfl rfl (hd ⟨8, .data⟩ (by simp) rfl)
                  obtain rfl : .slice (some ⟨g, 0, none⟩) nc cap = u8 := V8.symm
                  obtain ⟨u9, e9, V9⟩ := st.val 9 _ _ rfl rfl (hd ⟨9, .data⟩ (by simp) rfl)
                  obtain rfl : .int .i64 (i : Int) = u9 := V9.symm
                  exact opTo_val (v := .pointer (some ⟨g, 0 + i * 2, none⟩)) rfl (ex_idx rfl Try.underlying52 isAgg_two.2 g 0 nc cap i (eval_tmp e8) (eval_tmp e9) hlt) ⟨(fun h => by cases h), rfl, wi.other rfl _⟩
                | 11, _ =>
                  refine steps_of rfl ?_
                  intro L aq wq hL hd st wi
                  obtain ⟨u10, e10, V10⟩ := st.val 10 _ _ rfl rfl (hd ⟨10, .data⟩ (by simp) rfl)
                  obtain rfl : .pointer (some ⟨g, 0 + i * 2, none⟩) = u10 := V10.symm
                  exact opTo_val (v := .pointer (some ⟨g, 0 + i * 2 + 1 * 1, none⟩)) rfl (ex_idxArr rfl Try.underlying55 oneInt.2 g (0 + i * 2) 1 (eval_tmp e10) rfl (by omega)) ⟨(fun h => by cases h), rfl, wi.other rfl _⟩
                | 12, _ =>
                  refine steps_of rfl ?_
                  intro L aq wq hL hd st wi
                  obtain ⟨u11, e11, V11⟩ := st.val 11 _ _ rfl rfl (hd ⟨11, .data⟩ (by simp) rfl)
                  obtain rfl : .pointer (some ⟨g, 0 + i * 2 + 1 * 1, none⟩) = u11 := V11.symm
                  exact opTo_val (v := .int .i64 at') rfl (ex_load1 rfl oneInt (eval_tmp e11) ((wi.ag.cell (p := ⟨g, 0 + i * 2 + 1 * 1, none⟩) hgl trivial).trans hc1)) ⟨(fun h => by cases h), rfl, wi.other rfl _⟩
                | 13, _ =>
                  refine steps_of rfl ?_
                  intro L aq wq hL hd st wi
                  obtain ⟨u7, e7, V7⟩ := st.val 7 _ _ rfl rfl (hd ⟨7, .data⟩ (by simp) rfl)
                  obtain rfl : .agg (ov.disk d).cells = u7 := V7.symm
                  obtain ⟨u12, e12, V12⟩ := st.val 12 _ _ rfl rfl (hd ⟨12, .data⟩ (by simp) rfl)
                  obtain rfl : .int .i64 at' = u12 := V12.symm
                  refine opTo_call (w' := wq) (f := 26) (args := #[.agg (ov.disk d).cells, .int .i64 at']) rfl (by simp [go_sem, Act.eval, e7, e12]) ((HRD.out wq wi.ag).mono ?_)
                  rintro e w' ⟨rfl, hg⟩
                  exact ⟨_, rfl, (fun h => by cases h), rfl, (wi.mono hg).other rfl _⟩
                | 14, _ =>
                  refine steps_of rfl ?_
                  intro L aq wq hL hd st wi
                  obtain ⟨u13, e13, V13⟩ := st.val 13 _ _ rfl rfl (hd ⟨13, .data⟩ (by simp) rfl)
                  obtain rfl : .tuple #[.agg (pageCells q), .int .i64 0] = u13 := V13.symm
                  exact opTo_val (v := .tuple #[.agg (pageCells q), .int .i64 0]) rfl (ex_move (.inl rfl) (eval_tmp e13)) ⟨(fun h => by cases h), rfl, wi.other rfl _⟩
                | 15, _ =>
                  refine steps_of rfl ?_
                  intro L aq wq hL hd st wi
                  obtain ⟨u14, e14, V14⟩ := st.val 14 _ _ rfl rfl (hd ⟨14, .data⟩ (by simp) rfl)
                  obtain rfl : .tuple #[.agg (pageCells q), .int .i64 0] = u14 := V14.symm
                  exact opTo_val (v := .agg (pageCells q)) rfl (by simp [go_sem, Act.eval, e14]) ⟨(fun h => by cases h), rfl, wi.other rfl _⟩
                | 16, _ =>
                  refine steps_of rfl ?_
                  intro L aq wq hL hd st wi
                  obtain ⟨u14, e14, V14⟩ := st.val 14 _ _ rfl rfl (hd ⟨14, .data⟩ (by simp) rfl)
                  obtain rfl : .tuple #[.agg (pageCells q), .int .i64 0] = u14 := V14.symm
                  exact opTo_val (v := .int .i64 0) rfl (by simp [go_sem, Act.eval, e14]) ⟨(fun h => by cases h), rfl, wi.other rfl _⟩
                | 17, _ =>
                  refine steps_of rfl ?_
                  intro L aq wq hL hd st wi
                  have hn18 : L 18 = false := by
                    cases h : L 18
                    · rfl
                    · have := st.closed 18 _ rfl h ⟨17, .data⟩ (by simp) rfl
                      rw [hL] at this; cases this
                  exact opTo_val (v := .pointer (some ⟨wq.heap.size, 0, none⟩)) rfl (ex_alloc rfl (.agg (pageCells noPage)) zero_page) ⟨(fun h => by cases h), ⟨_, rfl⟩, wi.alloc rfl (x := ⟨17, 18, 32, pageCells noPage, pageCells q⟩) (by simp) (by simp) hn18 hL⟩
                | 18, _ =>
                  refine steps_of rfl ?_
                  intro L aq wq hL hd st wi
                  obtain ⟨u17, e17, V17⟩ := st.val 17 _ _ rfl rfl (hd ⟨17, .data⟩ (by simp) rfl)
                  obtain ⟨u15, e15, V15⟩ := st.val 15 _ _ rfl rfl (hd ⟨15, .data⟩ (by simp) rfl)
                  obtain rfl : .agg (pageCells q) = u15 := V15.symm
                  obtain ⟨b, rfl⟩ := V17
                  obtain ⟨b', hb1, hb2, hb3⟩ := wi.row ⟨17, 18, 32, pageCells noPage, pageCells q⟩ (by simp) (hd ⟨17, .data⟩ (by simp) rfl)
                  rw [show slotV _ aq 17 = .pointer (some ⟨b, 0, none⟩) from slotV_val rfl rfl e17] at hb1
                  have hbe : b' = b := by simpa using hb1.symm
                  subst hbe
                  unfold Box.now at hb3
                  rw [show L 18 = false from hL, if_neg Bool.false_ne_true] at hb3
                  exact opTo_skip rfl (ex_storeAll (n := 256) rfl isAgg_page.2 b' (eval_tmp e17) (pageCells q) (pageCells noPage) (eval_tmp e15) (by rw [pageCells_size]; exact hpl) hb3 (by rw [pageCells_size]; exact noPage_len) (pageCells_one _)) ⟨fun _ => rfl, rfl, wi.store rfl (x := ⟨17, 18, 32, pageCells noPage, pageCells q⟩) (by simp) (by simp) (by simp) (hd ⟨17, .data⟩ (by simp) rfl) (slotV_val rfl rfl e17)⟩
                | 19, _ =>
                  refine steps_of rfl ?_
                  intro L aq wq hL hd st wi
                  obtain ⟨u16, e16, V16⟩ := st.val 16 _ _ rfl rfl (hd ⟨16, .data⟩ (by simp) rfl)
                  obtain rfl : .int .i64 0 = u16 := V16.symm
                  exact opTo_val (v := .int .i64 0) rfl (ex_move (.inr rfl) (eval_tmp e16)) ⟨(fun h => by cases h), rfl, wi.other rfl _⟩
                | (k + 20), h => omega
            case hend13 =>
              intro vals w8 hV hW8
              have x19 : vals 19 = .int .i64 0 := hV 19 _ _ rfl rfl
              obtain ⟨b, hb1, hb2, hb3⟩ := hW8.row ⟨17, 18, 32, pageCells noPage, pageCells q⟩ (by simp) rfl
              simp only [putAll, Act.put, List.setIfInBounds_toArray, List.set_cons_succ, List.set_cons_zero, x19]
              rw [show vals 17 = .pointer (some ⟨b, 0, none⟩) from hb1]
              have HG8 := Lib.hid (HW.out.trans (HA0.out.trans hW8.ag))
              have HB8 := Lib.hid (show w8.heap[b]? = some (.cells (pageCells q) 32 (0, 0)) from hb3)
              have HP8 := Lib.hid ((HG8.out.block _ (Array.getElem?_eq_some_iff.1 HT1.out).1 trivial).trans HT1.out)
              have HFC := Lib.hid (rfits_calls x q hpl w8)
              have HQS := Lib.hid (show (pageCells q).size = 256 by rw [pageCells_size, hpl])
              clear hV hW8 x19 hb1 hb2 hb3 hor hgl hc0 hc1 HRD HORR HC0 hW0 hof k0
              go_wp2_with (first
                | (refine wpList_val rfl (ex_load (ty := 48) rfl isAgg_ptr (w.heap.size + 1) 0 rfl x.cells rfl (x.load HP8.out)) ?_)
                | (refine wpList_val rfl (ex_load (ty := 32) rfl isAgg_page b 0 rfl (pageCells q) HQS.out (fun j _ => by rw [Nat.zero_add]; exact cell_of_row _ _ _ _ _ _ HB8.out)) ?_))
              refine HFC.out.mono ?_
              rintro e w9 ⟨rfl, hg9⟩
              rw [HFQ.out]
              have HG9 := Lib.hid (HG8.out.trans hg9)
              have HB9 := Lib.hid ((hg9.block _ (Array.getElem?_eq_some_iff.1 HB8.out).1 trivial).trans HB8.out)
              clear hg9 HG8 HB8 HP8 HFC
              go_wp2_with fail
              obtain ⟨W1', hW1'⟩ : ∃ W1', w9.drew = W1' := ⟨_, rfl⟩
              have hd9 : Agrees All w9 W1' := by rw [← hW1']; exact (Agrees.refl _ _).drew
              have hg79 := HG9.out.trans hd9
              have hrg := (hg79.block _ (Array.getElem?_eq_some_iff.1 HGR.out).1 trivial).trans HGR.out
              have HGC : RowKit.Hid (g < W1'.heap.size ∧ ∀ j, j < 2 → W1'.cell? ⟨g, 0 + i * 2 + j, none⟩ = (copyL ((d : Int), at')).toArray[j]?) :=
                ⟨(Array.getElem?_eq_some_iff.1 hrg).1, fun j hj => by rw [Nat.zero_add, cell_of_row _ _ _ _ _ _ hrg, HCU.out i (by omega) j hj, HCC.out]⟩
              have HKC := Lib.hid (keyed_two ((d : Int), at') (by unfold in64; omega))
              have HD9 := Lib.hid hd9
              clear hd9 hrg
              by_cases hnl : n < nl
              · obtain ⟨gl, curl, rfl, hrl, hcl0⟩ := HLR.out n hnl
                have hrl' := (hg79.block _ (Array.getElem?_eq_some_iff.1 hrl).1 trivial).trans hrl
                have hclm : (P.bad x).getD n (0, 0) ∈ P.bad x := by rw [List.getD_eq_getElem?_getD, List.getElem?_eq_getElem (by rw [hnld]; exact hnl)]; exact List.getElem_mem _
                have hcl1 := hcl0 n hnl
                obtain ⟨cl, hcle⟩ : ∃ cl, (P.bad x).getD n (0, 0) = cl := ⟨_, rfl⟩
                rw [hcle] at hclm hcl1
                have hclc : cl ∈ x.copies := by rw [HBD.out] at hclm; exact (List.mem_filter.1 hclm).1
                have hclb : P.bd x cl = true := by rw [HBD.out] at hclm; exact (List.mem_filter.1 hclm).2
                have hkk := copies_mem x hx cl hclc
                have HKL := Lib.hid (keyed_two cl (by unfold in64; omega))
                have HLC : RowKit.Hid (gl < W1'.heap.size ∧ ∀ j, j < 2 → W1'.cell? ⟨gl, 0 + n * 2 + j, none⟩ = (copyL cl).toArray[j]?) :=
                  ⟨(Array.getElem?_eq_some_iff.1 hrl').1, fun j hj => by rw [Nat.zero_add, cell_of_row _ _ _ _ _ _ hrl', hcl1 j hj]⟩
                have HFA2 : RowKit.Hid ((P.bd x ((d : Int), at') = true → cl = ((d : Int), at')) ∧ (P.bd x ((d : Int), at') = false → cl ≠ ((d : Int), at'))) :=
                  ⟨fun h => by rw [← hcle]; exact (HFA.out h).2, fun h e => by rw [e, h] at hclb; cases hclb⟩
                clear hcl0 hcl1 hrl hrl' hclm hclc hclb hkk hcle
                have hll := HLC.out.1
                have hcl := HLC.out.2
                have hgl := HGC.out.1
                have hcc := HGC.out.2
                have hkl := HKL.out
                have hkc := HKC.out
                refine wp_region_plan (by kernel_rfl) ?hok16 (by kernel_rfl) (vFb16t g cap nc i gl nl lc n cl ((d : Int), at')) (fun _ _ W => Agrees All W1' W) ?h016 (fun k hk => ?steps16) ?hend16
                case hok16 => kernel_rfl
                case h016 => exact fun vals => by rw [hW1']; exact Agrees.refl _ _
                case steps16 =>
                  generalize ((d : Int), at') = cc at *
                  have hk' : k < 15 := hk
                  match k, hk' with
                    | 0, _ =>
                      refine steps_of rfl ?_
                      intro L aq wq hL hd st wi
                      have o11 := st.outside (t := 11) rfl (v := .int .i64 (n : Int)) rfl
                      exact opTo_val (v := .int .i64 (n : Int)) rfl (ex_move (.inl rfl) (eval_tmp o11)) ⟨(fun h => by cases h), rfl, wi⟩
                    | 1, _ =>
                      refine steps_of rfl ?_
                      intro L aq wq hL hd st wi
                      have o5 := st.outside (t := 5) rfl (v := .slice (some ⟨gl, 0, none⟩) nl lc) rfl
                      exact opTo_val (v := .slice (some ⟨gl, 0, none⟩) nl lc) rfl (ex_move (.inl rfl) (eval_tmp o5)) ⟨(fun h => by cases h), rfl, wi⟩
                    | 2, _ =>
                      refine steps_of rfl ?_
                      intro L aq wq hL hd st wi
                      obtain ⟨u1, e1, V1⟩ := st.val 1 _ _ rfl rfl (hd ⟨1, .data⟩ (by simp) rfl)
                      obtain rfl : .slice (some ⟨gl, 0, none⟩) nl lc = u1 := V1.symm
                      exact opTo_val (v := .int .i64 (nl : Int)) rfl (by simp [go_sem, Act.eval, e1]) ⟨(fun h => by cases h), rfl, wi⟩
                    | 3, _ =>
                      refine steps_of rfl ?_
                      intro L aq wq hL hd st wi
                      obtain ⟨u0, e0, V0⟩ := st.val 0 _ _ rfl rfl (hd ⟨0, .data⟩ (by simp) rfl)
                      obtain rfl : .int .i64 (n : Int) = u0 := V0.symm
                      obtain ⟨u2, e2, V2⟩ := st.val 2 _ _ rfl rfl (hd ⟨2, .data⟩ (by simp) rfl)
                      obtain rfl : .int .i64 (nl : Int) = u2 := V2.symm
                      exact opTo_val (v := .bool true) rfl (by simp [go_sem, Act.eval, e0, e2, hnl]) ⟨(fun h => by cases h), rfl, wi⟩
                    | 4, _ =>
                      refine steps_of rfl ?_
                      intro L aq wq hL hd st wi
                      obtain ⟨u3, e3, V3⟩ := st.val 3 _ _ rfl rfl (hd ⟨3, .data⟩ (by simp) rfl)
                      obtain rfl : .bool true = u3 := V3.symm
                      exact opTo_val (v := .bool true) rfl (ex_move (.inl rfl) (eval_tmp e3)) ⟨(fun h => by cases h), rfl, wi⟩
                    | 5, _ =>
                      refine steps_of rfl ?_
                      intro L aq wq hL hd st wi
                      have o5 := st.outside (t := 5) rfl (v := .slice (some ⟨gl, 0, none⟩) nl lc) rfl
                      obtain ⟨u4, e4, V4⟩ := st.val 4 _ _ rfl rfl (hd ⟨4, .guard⟩ (by simp) rfl)
                      obtain rfl : .bool true = u4 := V4.symm
                      exact opTo_val (v := .slice (some ⟨gl, 0, none⟩) nl lc) (by simp [Region.wanted, yielded, e4]) (ex_move (.inl rfl) (eval_tmp o5)) ⟨(fun h => by cases h), rfl, wi⟩
                    | 6, _ =>
                      refine steps_of rfl ?_
                      intro L aq wq hL hd st wi
                      have o11 := st.outside (t := 11) rfl (v := .int .i64 (n : Int)) rfl
                      obtain ⟨u4, e4, V4⟩ := st.val 4 _ _ rfl rfl (hd ⟨4, .guard⟩ (by simp) rfl)
                      obtain rfl : .bool true = u4 := V4.symm
                      exact opTo_val (v := .int .i64 (n : Int)) (by simp [Region.wanted, yielded, e4]) (ex_move (.inl rfl) (eval_tmp o11)) ⟨(fun h => by cases h), rfl, wi⟩
                    | 7, _ =>
                      refine steps_of rfl ?_
                      intro L aq wq hL hd st wi
                      obtain ⟨u5, e5, V5⟩ := st.val 5 _ _ rfl rfl (hd ⟨5, .data⟩ (by simp) rfl)
                      obtain rfl : .slice (some ⟨gl, 0, none⟩) nl lc = u5 := V5.symm
                      obtain ⟨u6, e6, V6⟩ := st.val 6 _ _ rfl rfl (hd ⟨6, .data⟩ (by simp) rfl)
                      obtain rfl : .int .i64 (n : Int) = u6 := V6.symm
                      obtain ⟨u4, e4, V4⟩ := st.val 4 _ _ rfl rfl (hd ⟨4, .guard⟩ (by simp) rfl)
                      obtain rfl : .bool true = u4 := V4.symm
                      exact opTo_val (v := .pointer (some ⟨gl, 0 + n * 2, none⟩)) (by simp [Region.wanted, yielded, e4]) (ex_idx rfl Try.underlying52 isAgg_two.2 gl 0 nl lc n (eval_tmp e5) (eval_tmp e6) (by omega)) ⟨(fun h => by cases h), rfl, wi⟩
                    | 8, _ =>
                      refine steps_of rfl ?_
                      intro L aq wq hL hd st wi
                      obtain ⟨u7, e7, V7⟩ := st.val 7 _ _ rfl rfl (hd ⟨7, .data⟩ (by simp) rfl)
                      obtain rfl : .pointer (some ⟨gl, 0 + n * 2, none⟩) = u7 := V7.symm
                      obtain ⟨u4, e4, V4⟩ := st.val 4 _ _ rfl rfl (hd ⟨4, .guard⟩ (by simp) rfl)
                      obtain rfl : .bool true = u4 := V4.symm
                      exact opTo_val (v := .agg (copyL cl).toArray) (by simp [Region.wanted, yielded, e4]) (ex_load rfl isAgg_two gl (0 + n * 2) (eval_tmp e7) (copyL cl).toArray rfl (fun j hj => (wi.cell (p := ⟨gl, 0 + n * 2 + j, none⟩) hll trivial).trans (hcl j hj))) ⟨(fun h => by cases h), rfl, wi⟩
                    | 9, _ =>
                      refine steps_of rfl ?_
                      intro L aq wq hL hd st wi
                      have o10 := st.outside (t := 10) rfl (v := .slice (some ⟨g, 0, none⟩) nc cap) rfl
                      obtain ⟨u4, e4, V4⟩ := st.val 4 _ _ rfl rfl (hd ⟨4, .guard⟩ (by simp) rfl)
                      obtain rfl : .bool true = u4 := V4.symm
                      exact opTo_val (v := .slice (some ⟨g, 0, none⟩) nc cap) (by simp [Region.wanted, yielded, e4]) (ex_move (.inl rfl) (eval_tmp o10)) ⟨(fun h => by cases h), rfl, wi⟩
                    | 10, _ =>
                      refine steps_of rfl ?_
                      intro L aq wq hL hd st wi
                      have o12 := st.outside (t := 12) rfl (v := .int .i64 (i : Int)) rfl
                      obtain ⟨u4, e4, V4⟩ := st.val 4 _ _ rfl rfl (hd ⟨4, .guard⟩ (by simp) rfl)
                      obtain rfl : .bool true = u4 := V4.symm
                      exact opTo_val (v := .int .i64 (i : Int)) (by simp [Region.wanted, yielded, e4]) (ex_move (.inl rfl) (eval_tmp o12)) ⟨(fun h => by cases h), rfl, wi⟩
                    | 11, _ =>
                      refine steps_of rfl ?_
                      intro L aq wq hL hd st wi
                      obtain ⟨u9, e9, V9⟩ := st.val 9 _ _ rfl rfl (hd ⟨9, .data⟩ (by simp) rfl)
                      obtain rfl : .slice (some ⟨g, 0, none⟩) nc cap = u9 := V9.symm
                      obtain ⟨u10, e10, V10⟩ := st.val 10 _ _ rfl rfl (hd ⟨10, .data⟩ (by simp) rfl)
                      obtain rfl : .int .i64 (i : Int) = u10 := V10.symm
                      obtain ⟨u4, e4, V4⟩ := st.val 4 _ _ rfl rfl (hd ⟨4, .guard⟩ (by simp) rfl)
                      obtain rfl : .bool true = u4 := V4.symm
                      exact opTo_val (v := .pointer (some ⟨g, 0 + i * 2, none⟩)) (by simp [Region.wanted, yielded, e4]) (ex_idx rfl Try.underlying52 isAgg_two.2 g 0 nc cap i (eval_tmp e9) (eval_tmp e10) hlt) ⟨(fun h => by cases h), rfl, wi⟩
                    | 12, _ =>
                      refine steps_of rfl ?_
                      intro L aq wq hL hd st wi
                      obtain ⟨u11, e11, V11⟩ := st.val 11 _ _ rfl rfl (hd ⟨11, .data⟩ (by simp) rfl)
                      obtain rfl : .pointer (some ⟨g, 0 + i * 2, none⟩) = u11 := V11.symm
                      obtain ⟨u4, e4, V4⟩ := st.val 4 _ _ rfl rfl (hd ⟨4, .guard⟩ (by simp) rfl)
                      obtain rfl : .bool true = u4 := V4.symm
                      exact opTo_val (v := .agg (copyL cc).toArray) (by simp [Region.wanted, yielded, e4]) (ex_load rfl isAgg_two g (0 + i * 2) (eval_tmp e11) (copyL cc).toArray rfl (fun j hj => (wi.cell (p := ⟨g, 0 + i * 2 + j, none⟩) hgl trivial).trans (hcc j hj))) ⟨(fun h => by cases h), rfl, wi⟩
                    | 13, _ =>
                      refine steps_of rfl ?_
                      intro L aq wq hL hd st wi
                      obtain ⟨u8, e8, V8⟩ := st.val 8 _ _ rfl rfl (hd ⟨8, .data⟩ (by simp) rfl)
                      obtain rfl : .agg (copyL cl).toArray = u8 := V8.symm
                      obtain ⟨u12, e12, V12⟩ := st.val 12 _ _ rfl rfl (hd ⟨12, .data⟩ (by simp) rfl)
                      obtain rfl : .agg (copyL cc).toArray = u12 := V12.symm
                      obtain ⟨u4, e4, V4⟩ := st.val 4 _ _ rfl rfl (hd ⟨4, .guard⟩ (by simp) rfl)
                      obtain rfl : .bool true = u4 := V4.symm
                      refine opTo_eql keyable_two hkl hkc (by simp [Region.wanted, yielded, e4]) rfl (eval_tmp e8) (eval_tmp e12) (fun r hr => ⟨(fun h => by cases h), ?_, wi⟩)
                      exact congrArg Value.bool (twoEq_of hr)
                    | 14, _ =>
                      refine steps_of rfl ?_
                      intro L aq wq hL hd st wi
                      obtain ⟨u4, e4, V4⟩ := st.val 4 _ _ rfl rfl (hd ⟨4, .data⟩ (by simp) rfl)
                      obtain rfl : .bool true = u4 := V4.symm
                      obtain ⟨u13, e13, V13⟩ := st.val 13 _ _ rfl rfl (hd ⟨13, .data⟩ (by simp) rfl)
                      obtain rfl : .bool (cl == cc) = u13 := V13.symm
                      exact opTo_val (v := .bool (cl == cc)) rfl (by simp [go_sem, Act.eval, e4, e13]) ⟨(fun h => by cases h), rfl, wi⟩
                    | (k + 15), h => omega
                case hend16 =>
                  intro vals w10 hV hW10
                  have x14 : vals 14 = .bool (cl == ((d : Int), at')) := hV 14 _ _ rfl rfl
                  simp only [putAll, Act.put, List.setIfInBounds_toArray, List.set_cons_succ, List.set_cons_zero, x14]
                  have HG10 := Lib.hid (HG9.out.trans (HD9.out.trans hW10))
                  have HB10 := Lib.hid (((HD9.out.trans hW10).block _ (Array.getElem?_eq_some_iff.1 HB9.out).1 trivial).trans HB9.out)
                  have HT610 := Lib.hid ((HG10.out.block _ (Array.getElem?_eq_some_iff.1 HT6.out).1 trivial).trans HT6.out)
                  clear hV hW10 x14 hll hcl hgl hcc hkl hkc HKL HKC HLC HGC hW1' hg79
                  cases hbc : P.bd x ((d : Int), at')
                  · have hne : (cl == ((d : Int), at')) = false := by simpa using HFA2.out.2 hbc
                    have HNN : RowKit.Hid (((x.copies.take (i + 1)).filter (P.bd x)).length = n) := by
                      rw [HSUC.out, hbc]
                      exact Lib.hid (by simpa using HN.out)
                    rw [hne]
                    clear hne HFA2 hbc
                    go_wp2_with fail
                    refine ⟨⟨i + 1, by omega, by simp, by rw [HNN.out], HG10⟩, by simp [intOf]; omega⟩
                  · have heq : (cl == ((d : Int), at')) = true := by simpa using HFA2.out.1 hbc
                    have HNN : RowKit.Hid (((x.copies.take (i + 1)).filter (P.bd x)).length = n + 1) := by
                      rw [HSUC.out, hbc]
                      exact Lib.hid (by simpa using HN.out)
                    have hqp := HQB.out hbc
                    have HKP := Lib.hid (keyed_page q hpl)
                    have HKG := Lib.hid (keyed_page pg HLL.out)
                    have HQP : RowKit.Hid (pageCells q = pageCells pg) := by rw [hqp]; exact Lib.hid rfl
                    have hnw : IntKind.i64.wrap ((n : Int) + 1) = (n : Int) + 1 := by rw [IntKind.wrap_i64]; omega
                    rw [heq]
                    clear heq HFA2 hbc hqp
                    go_wp2_with (first
                      | (refine wpList_val rfl (ex_load (ty := 32) rfl isAgg_page b 0 rfl (pageCells q) HQS.out (fun j _ => by rw [Nat.zero_add]; exact cell_of_row _ _ _ _ _ _ HB10.out)) ?_)
                      | (refine wpList_val rfl (ex_load (ty := 32) rfl isAgg_page W5.heap.size 0 rfl (pageCells pg) HPG.out (fun j _ => by rw [Nat.zero_add]; exact cell_of_row _ _ _ _ _ _ HT610.out)) ?_)
                      | (refine wpList_neq keyable_page HKP.out HKG.out rfl rfl rfl rfl ?_; intro r hr; obtain rfl := hr.2 HQP.out))
                    refine ⟨⟨i + 1, by omega, by simp, by rw [HNN.out]; simp, HG10⟩, by simp [intOf]; omega⟩
              · have hnb : P.bd x ((d : Int), at') = false := by
                  cases h : P.bd x ((d : Int), at')
                  · rfl
                  · exact (hnl (by have := (HFA.out h).1; omega)).elim
                have HNN : RowKit.Hid (((x.copies.take (i + 1)).filter (P.bd x)).length = n) := by
                  rw [HSUC.out, hnb]
                  exact Lib.hid (by simpa using HN.out)
                refine wp_region_plan (by kernel_rfl) ?hok16 (by kernel_rfl) (vFb16f nl lc n la) (fun _ _ W => Agrees All W1' W) ?h016 (fun k hk => ?steps16) ?hend16
                case hok16 => kernel_rfl
                case h016 => exact fun vals => by rw [hW1']; exact Agrees.refl _ _
                case steps16 =>
                  have hk' : k < 15 := hk
                  match k, hk' with
                    | 0, _ =>
                      refine steps_of rfl ?_
                      intro L aq wq hL hd st wi
                      have o11 := st.outside (t := 11) rfl (v := .int .i64 (n : Int)) rfl
                      exact opTo_val (v := .int .i64 (n : Int)) rfl (ex_move (.inl rfl) (eval_tmp o11)) ⟨(fun h => by cases h), rfl, wi⟩
                    | 1, _ =>
                      refine steps_of rfl ?_
                      intro L aq wq hL hd st wi
                      have o5 := st.outside (t := 5) rfl (v := .slice la nl lc) rfl
                      exact opTo_val (v := .slice la nl lc) rfl (ex_move (.inl rfl) (eval_tmp o5)) ⟨(fun h => by cases h), rfl, wi⟩
                    | 2, _ =>
                      refine steps_of rfl ?_
                      intro L aq wq hL hd st wi
                      obtain ⟨u1, e1, V1⟩ := st.val 1 _ _ rfl rfl (hd ⟨1, .data⟩ (by simp) rfl)
                      obtain rfl : .slice la nl lc = u1 := V1.symm
                      exact opTo_val (v := .int .i64 (nl : Int)) rfl (by simp [go_sem, Act.eval, e1]) ⟨(fun h => by cases h), rfl, wi⟩
                    | 3, _ =>
                      refine steps_of rfl ?_
                      intro L aq wq hL hd st wi
                      obtain ⟨u0, e0, V0⟩ := st.val 0 _ _ rfl rfl (hd ⟨0, .data⟩ (by simp) rfl)
                      obtain rfl : .int .i64 (n : Int) = u0 := V0.symm
                      obtain ⟨u2, e2, V2⟩ := st.val 2 _ _ rfl rfl (hd ⟨2, .data⟩ (by simp) rfl)
                      obtain rfl : .int .i64 (nl : Int) = u2 := V2.symm
                      exact opTo_val (v := .bool false) rfl (by simp [go_sem, Act.eval, e0, e2, hnl]) ⟨(fun h => by cases h), rfl, wi⟩
                    | 4, _ =>
                      refine steps_of rfl ?_
                      intro L aq wq hL hd st wi
                      obtain ⟨u3, e3, V3⟩ := st.val 3 _ _ rfl rfl (hd ⟨3, .data⟩ (by simp) rfl)
                      obtain rfl : .bool false = u3 := V3.symm
                      exact opTo_val (v := .bool false) rfl (ex_move (.inl rfl) (eval_tmp e3)) ⟨(fun h => by cases h), rfl, wi⟩
                    | 5, _ =>
                      refine steps_of rfl ?_
                      intro L aq wq hL hd st wi
                      have o5 := st.outside (t := 5) rfl (v := .slice la nl lc) rfl
                      obtain ⟨u4, e4, V4⟩ := st.val 4 _ _ rfl rfl (hd ⟨4, .guard⟩ (by simp) rfl)
                      obtain rfl : .bool false = u4 := V4.symm
                      exact opTo_not (by simp [Region.wanted, yielded, e4]) ⟨fun _ => rfl, rfl, wi⟩
                    | 6, _ =>
                      refine steps_of rfl ?_
                      intro L aq wq hL hd st wi
                      have o11 := st.outside (t := 11) rfl (v := .int .i64 (n : Int)) rfl
                      obtain ⟨u4, e4, V4⟩ := st.val 4 _ _ rfl rfl (hd ⟨4, .guard⟩ (by simp) rfl)
                      obtain rfl : .bool false = u4 := V4.symm
                      exact opTo_not (by simp [Region.wanted, yielded, e4]) ⟨fun _ => rfl, rfl, wi⟩
                    | 7, _ =>
                      refine steps_of rfl ?_
                      intro L aq wq hL hd st wi
                      obtain ⟨u5, e5, V5⟩ := st.val 5 _ _ rfl rfl (hd ⟨5, .data⟩ (by simp) rfl)
                      obtain rfl : undef = u5 := V5.symm
                      obtain ⟨u6, e6, V6⟩ := st.val 6 _ _ rfl rfl (hd ⟨6, .data⟩ (by simp) rfl)
                      obtain rfl : undef = u6 := V6.symm
                      obtain ⟨u4, e4, V4⟩ := st.val 4 _ _ rfl rfl (hd ⟨4, .guard⟩ (by simp) rfl)
                      obtain rfl : .bool false = u4 := V4.symm
                      exact opTo_not (by simp [Region.wanted, yielded, e4]) ⟨fun _ => rfl, rfl, wi⟩
                    | 8, _ =>
                      refine steps_of rfl ?_
                      intro L aq wq hL hd st wi
                      obtain ⟨u7, e7, V7⟩ := st.val 7 _ _ rfl rfl (hd ⟨7, .data⟩ (by simp) rfl)
                      obtain rfl : undef = u7 := V7.symm
                      obtain ⟨u4, e4, V4⟩ := st.val 4 _ _ rfl rfl (hd ⟨4, .guard⟩ (by simp) rfl)
                      obtain rfl : .bool false = u4 := V4.symm
                      exact opTo_not (by simp [Region.wanted, yielded, e4]) ⟨fun _ => rfl, rfl, wi⟩
                    | 9, _ =>
                      refine steps_of rfl ?_
                      intro L aq wq hL hd st wi
                      have o10 := st.outside (t := 10) rfl (v := .slice (some ⟨g, 0, none⟩) nc cap) rfl
                      obtain ⟨u4, e4, V4⟩ := st.val 4 _ _ rfl rfl (hd ⟨4, .guard⟩ (by simp) rfl)
                      obtain rfl : .bool false = u4 := V4.symm
                      exact opTo_not (by simp [Region.wanted, yielded, e4]) ⟨fun _ => rfl, rfl, wi⟩
                    | 10, _ =>
                      refine steps_of rfl ?_
                      intro L aq wq hL hd st wi
                      have o12 := st.outside (t := 12) rfl (v := .int .i64 (i : Int)) rfl
                      obtain ⟨u4, e4, V4⟩ := st.val 4 _ _ rfl rfl (hd ⟨4, .guard⟩ (by simp) rfl)
                      obtain rfl : .bool false = u4 := V4.symm
                      exact opTo_not (by simp [Region.wanted, yielded, e4]) ⟨fun _ => rfl, rfl, wi⟩
                    | 11, _ =>
                      refine steps_of rfl ?_
                      intro L aq wq hL hd st wi
                      obtain ⟨u9, e9, V9⟩ := st.val 9 _ _ rfl rfl (hd ⟨9, .data⟩ (by simp) rfl)
                      obtain rfl : undef = u9 := V9.symm
                      obtain ⟨u10, e10, V10⟩ := st.val 10 _ _ rfl rfl (hd ⟨10, .data⟩ (by simp) rfl)
                      obtain rfl : undef = u10 := V10.symm
                      obtain ⟨u4, e4, V4⟩ := st.val 4 _ _ rfl rfl (hd ⟨4, .guard⟩ (by simp) rfl)
                      obtain rfl : .bool false = u4 := V4.symm
                      exact opTo_not (by simp [Region.wanted, yielded, e4]) ⟨fun _ => rfl, rfl, wi⟩
                    | 12, _ =>
                      refine steps_of rfl ?_
                      intro L aq wq hL hd st wi
                      obtain ⟨u11, e11, V11⟩ := st.val 11 _ _ rfl rfl (hd ⟨11, .data⟩ (by simp) rfl)
                      obtain rfl : undef = u11 := V11.symm
                      obtain ⟨u4, e4, V4⟩ := st.val 4 _ _ rfl rfl (hd ⟨4, .guard⟩ (by simp) rfl)
                      obtain rfl : .bool false = u4 := V4.symm
                      exact opTo_not (by simp [Region.wanted, yielded, e4]) ⟨fun _ => rfl, rfl, wi⟩
                    | 13, _ =>
                      refine steps_of rfl ?_
                      intro L aq wq hL hd st wi
                      obtain ⟨u8, e8, V8⟩ := st.val 8 _ _ rfl rfl (hd ⟨8, .data⟩ (by simp) rfl)
                      obtain rfl : undef = u8 := V8.symm
                      obtain ⟨u12, e12, V12⟩ := st.val 12 _ _ rfl rfl (hd ⟨12, .data⟩ (by simp) rfl)
                      obtain rfl : undef = u12 := V12.symm
                      obtain ⟨u4, e4, V4⟩ := st.val 4 _ _ rfl rfl (hd ⟨4, .guard⟩ (by simp) rfl)
                      obtain rfl : .bool false = u4 := V4.symm
                      exact opTo_not (by simp [Region.wanted, yielded, e4]) ⟨fun _ => rfl, rfl, wi⟩
                    | 14, _ =>
                      refine steps_of rfl ?_
                      intro L aq wq hL hd st wi
                      obtain ⟨u4, e4, V4⟩ := st.val 4 _ _ rfl rfl (hd ⟨4, .data⟩ (by simp) rfl)
                      obtain rfl : .bool false = u4 := V4.symm
                      obtain ⟨u13, e13, V13⟩ := st.val 13 _ _ rfl rfl (hd ⟨13, .data⟩ (by simp) rfl)
                      obtain rfl : undef = u13 := V13.symm
                      exact opTo_val (v := .bool false) rfl (by simp [go_sem, Act.eval, e4]) ⟨(fun h => by cases h), rfl, wi⟩
                    | (k + 15), h => omega
                case hend16 =>
                  intro vals w10 hV hW10
                  have x14 : vals 14 = .bool false := hV 14 _ _ rfl rfl
                  simp only [putAll, Act.put, List.setIfInBounds_toArray, List.set_cons_succ, List.set_cons_zero, x14]
                  have HG10 := Lib.hid (HG9.out.trans (HD9.out.trans hW10))
                  clear hV hW10 x14 hnb hW1' hg79
                  go_wp2_with fail
                  refine ⟨⟨i + 1, by omega, by simp, by rw [HNN.out], HG10⟩, by simp [intOf]; omega⟩
          · have HB0 : RowKit.Hid (P.bd x ((d : Int), at') = false) := by
              unfold Pair.bd
              rw [HLV.out]
              exact Lib.hid (by simp)
            have HNN : RowKit.Hid (((x.copies.take (i + 1)).filter (P.bd x)).length = n) := by
              rw [HSUC.out, HB0.out]
              exact Lib.hid (by simpa using HN.out)
            go_wp2_with fail
            refine ⟨⟨i + 1, by omega, by simp, by rw [HNN.out], HW⟩, by simp [intOf]; omega⟩
        · obtain rfl : i = nc := by omega
          have hcn : ((x.copies.take i).filter (P.bd x)).length = nl := by
            rw [List.take_of_length_le (by omega)]; exact HNL.out.symm
          generalize ((x.copies.take i).filter (P.bd x)).length = n at *
          subst hcn
          have c82 : wr.cell? ⟨W5.heap.size + 1 + 1, 2, none⟩ = some (.int .i64 (n : Int)) := by
            rw [cell_of_row _ _ _ _ _ _ ((HW.out.block _ (Array.getElem?_eq_some_iff.1 HT8.out).1 trivial).trans HT8.out), ← HLM.out]; rfl
          go_wp2_with fail
          refine (wakes_calls _).mono ?_
          rintro e W8 ⟨rfl, hg8⟩
          have HF := Lib.hid (HA7.out.trans (HW.out.trans hg8))
          clear hg8
          go_wp2_with fail
          go_ret
          exact ⟨rfl, HF.out⟩
    · have hne50 : (er != 0) = true := by simpa using he
      have c80 : W6.cell? ⟨W5.heap.size + 1 + 1, 0, none⟩ = some (.int .i64 tl.r) := by rw [cell_of_row _ _ _ _ _ _ HR8.out]; rfl
      cases h50 : (er != 50)
      · have HEQ : RowKit.Hid (tl.r = ((P.bad x).length : Int)) := Lib.hid (HCO.out (by simpa using h50))
        have heq : (((P.bad x).length : Int) == tl.r) = true := by rw [HEQ.out]; simp
        go_wp2_with (first
          | (refine wpList_val rfl (ex_alloc rfl (.agg (pageCells noPage)) zero_page) ?_; rw [show (Value.agg (pageCells noPage)).cells = pageCells noPage from rfl, hA1])
          | (refine wpList_val rfl (ex_alloc rfl (.agg PV.zero.cells) zero_pair) ?_; rw [show (Value.agg PV.zero.cells).cells = PV.zero.cells from rfl, hA2, hsA1])
          | (refine wpList_val rfl (ex_alloc rfl (.agg (Tal.mk 0 0 0).cells) zero_tally) ?_; rw [show (Value.agg (Tal.mk 0 0 0).cells).cells = (Tal.mk 0 0 0).cells from rfl, hA3, hsA2])
          | (refine wpList_unit rfl (ex_storeAll (ty := 32) rfl isAgg_page.2 W5.heap.size rfl (pageCells pg) (pageCells noPage) rfl HPG.out HZ1.out HPN.out (pageCells_one _)) ?_; rw [hS1])
          | (refine wpList_unit rfl (ex_storeAll (ty := 40) rfl isAgg_pair.2 (W5.heap.size + 1) rfl ov.cells PV.zero.cells rfl rfl HZ2.out rfl (PV.one _)) ?_; rw [hS2])
          | (refine wpList_unit rfl (ex_storeAll (ty := 57) rfl isAgg_tally.2 (W5.heap.size + 1 + 1) rfl tl.cells (Tal.mk 0 0 0).cells rfl rfl HZ3.out rfl (Tal.one _)) ?_; rw [hS3]))
        refine (wakes_calls _).mono ?_
        rintro e W7 ⟨rfl, hg7⟩
        have HF := Lib.hid (HA6.out.trans hg7)
        clear hg7
        go_wp2_with fail
        go_ret
        exact ⟨rfl, HF.out⟩
      · go_wp2_with (first
          | (refine wpList_val rfl (ex_alloc rfl (.agg (pageCells noPage)) zero_page) ?_; rw [show (Value.agg (pageCells noPage)).cells = pageCells noPage from rfl, hA1])
          | (refine wpList_val rfl (ex_alloc rfl (.agg PV.zero.cells) zero_pair) ?_; rw [show (Value.agg PV.zero.cells).cells = PV.zero.cells from rfl, hA2, hsA1])
          | (refine wpList_val rfl (ex_alloc rfl (.agg (Tal.mk 0 0 0).cells) zero_tally) ?_; rw [show (Value.agg (Tal.mk 0 0 0).cells).cells = (Tal.mk 0 0 0).cells from rfl, hA3, hsA2])
          | (refine wpList_unit rfl (ex_storeAll (ty := 32) rfl isAgg_page.2 W5.heap.size rfl (pageCells pg) (pageCells noPage) rfl HPG.out HZ1.out HPN.out (pageCells_one _)) ?_; rw [hS1])
          | (refine wpList_unit rfl (ex_storeAll (ty := 40) rfl isAgg_pair.2 (W5.heap.size + 1) rfl ov.cells PV.zero.cells rfl rfl HZ2.out rfl (PV.one _)) ?_; rw [hS2])
          | (refine wpList_unit rfl (ex_storeAll (ty := 57) rfl isAgg_tally.2 (W5.heap.size + 1 + 1) rfl tl.cells (Tal.mk 0 0 0).cells rfl rfl HZ3.out rfl (Tal.one _)) ?_; rw [hS3]))
        refine (wakes_calls _).mono ?_
        rintro e W7 ⟨rfl, hg7⟩
        have HF := Lib.hid (HA6.out.trans hg7)
        clear hg7
        go_wp2_with fail
        go_ret
        exact ⟨rfl, HF.out⟩
  · go_wp2_with fail
    refine (wakes_calls W3).mono ?_
    rintro e W4 ⟨rfl, hag⟩
    have HF := Lib.hid (HA3.out.trans hag)
    clear hag
    go_wp2_with fail
    go_ret
    exact ⟨rfl, HF.out⟩
end Suture
/-
  FROM A CONTRACT TO A ROW's STEP, for a law that keeps all that was there: the arguments read behind the call as before.
  Conditions: none beyond each theorem's own.
-/
namespace Suture
open Go Go.RowKit Go.ChangeShapes Go.WideShapes Go.ChangeAt

section
variable {H : Type} {enc : TypeId × Value → H} {P : Program}

theorem trodAll_stays (hl : laidOutB P = true) {W W' : World} {sp : Nat → Bool} : ∀ (ts : List TypeId) (vs : List Value) (ds : List (DataW H)) (ps : List MemPlace),
    (∀ t ∈ ts, P.readableRec t = true ∧ t < P.types.size) → DataW.TrodAll enc P W 0 (fun _ => true) true ts vs ds ps → (∀ p ∈ ps, W.sameAt W' p) → (∀ p ∈ ps, sp p.block = true) →
    DataW.TrodAll enc P W' 0 sp true ts vs ds ps
  | [], [], [], ps, _, h, _, _ => h
  | t :: ts, v :: vs, d :: ds, ps, ht, h, hsame, hsp => by
    obtain ⟨p, q, h1, h2, rfl⟩ := h
    exact ⟨p, q, WideElems.Trod_stays hl (ht t (by simp)).1 (ht t (by simp)).2 h1 (fun x hx => hsame x (List.mem_append_left _ hx)) (fun x hx => hsp x (List.mem_append_left _ hx)),
      trodAll_stays hl ts vs ds q (fun t' h' => ht t' (List.mem_cons_of_mem _ h')) h2 (fun x hx => hsame x (List.mem_append_right _ hx)) (fun x hx => hsp x (List.mem_append_right _ hx)), rfl⟩
  | [], [], _ :: _, _, _, h, _, _ => h.elim
  | [], _ :: _, _, _, _, h, _, _ => h.elim
  | _ :: _, [], _, _, _, h, _, _ => h.elim
  | _ :: _, _ :: _, [], _, _, h, _, _ => h.elim

theorem addr_plain {W : World} {a : Addr} {v : Value} (h : W.cell? a = some v) : ∃ b off, a = ⟨b, off, none⟩ := by
  obtain ⟨b, off, spot⟩ := a
  have hspot : spot = none := World.cell?_spot h
  subst hspot
  exact ⟨b, off, rfl⟩
theorem bytes_of_trod {W : World} {t e : TypeId} {cs : List Value} {fuel : Nat} {x : DataW H × List MemPlace} (ht : P.underlying t = some (.slice e)) (he : P.underlying e = some (.int .u8)) (hc : P.cellsOf e = 1)
    (hf : DataW.trod enc P W 0 (fun _ => true) true fuel t cs = some x) : ∃ a n cap bs, cs = [.slice a n cap] ∧ BytesAt All W (.slice a n cap) bs := by
  rcases open_ints ht he hc hf with ⟨hcs, _⟩ | ⟨a, len, cap, zs, hcs, _, hl, hm, hz, _, hcell, hwz⟩
  · exact ⟨none, 0, 0, [], hcs, _, 0, 0, rfl, rfl, by omega, fun i x hx => by simp at hx⟩
  · unfold maxLen at hm
    simp only [if_true] at hz
    refine ⟨some a, len, cap, (zs.take len).map (BitVec.ofInt 8), hcs, _, len, cap, rfl, by simp; omega, by omega, fun i x hx => ?_⟩
    have hi : i < len := by
      have := (List.getElem?_eq_some_iff.1 hx).1
      simp at this; omega
    have hp : 0 < zs.length := by omega
    obtain ⟨b, off, rfl, hcell'⟩ := ints_at hcell hp
    have hlt : b < W.heap.size := by
      have := hcell' 0 hp
      unfold World.cell? at this
      cases hq : W.heap[b]? with
      | none => rw [hq] at this; cases this
      | some o => exact (Array.getElem?_eq_some_iff.1 hq).1
    refine ⟨b, off, rfl, trivial, hlt, ?_⟩
    rw [hcell' i (by omega)]
    rw [List.getElem?_map, List.getElem?_map, List.getElem?_take_of_lt hi, List.getElem?_eq_getElem (by omega)] at hx
    simp only [Option.map_some, Option.some.injEq] at hx
    rw [← hx]
    congr 1
    have hg : zs.getD i 0 = zs[i] := by rw [List.getD_eq_getElem?_getD, List.getElem?_eq_getElem (by omega)]; rfl
    rw [hg]
    have hw := hwz _ (List.getElem_mem (show i < zs.length by omega))
    have hx : 0 ≤ zs[i] ∧ zs[i] ≤ 255 := by simpa [Lit.wf, IntKind.min, IntKind.max, IntKind.signed, IntKind.bits] using hw
    unfold B
    rw [BitVec.toNat_ofInt]
    have e : ((zs[i] % ((2 ^ 8 : Nat) : Int)).toNat : Int) = zs[i] := by
      rw [show (2 ^ 8 : Nat) = 256 from rfl]; omega
    rw [e]
/-- a slice of bytes that came in -/
theorem open_bytes {W : World} {t e : TypeId} {v : Value} {d : DataW H} {ps : List MemPlace} {r : Reach} {base : Nat} (ht : P.underlying t = some (.slice e)) (he : P.underlying e = some (.int .u8)) (hc : P.cellsOf e = 1)
    (hval : Value.okWide P W r base t v) (h : DataW.Trod enc P W 0 (fun _ => true) true t v d ps) : ∃ a n cap bs, v = .slice a n cap ∧ BytesAt All W (.slice a n cap) bs := by
  obtain ⟨a0, len, cap, rfl⟩ := okWide_slice ht hval
  obtain ⟨fuel, hf⟩ := h
  obtain ⟨a, n, cap, bs, hcs, hb⟩ := bytes_of_trod ht he hc hf
  simp only [Value.cells, List.cons.injEq, and_true] at hcs
  exact ⟨a, n, cap, bs, hcs, hb⟩
/-- a slice of slices of bytes that came in -/
theorem open_parts {W : World} {t s e : TypeId} {v : Value} {d : DataW H} {ps : List MemPlace} {r : Reach} {base : Nat} (ht : P.underlying t = some (.slice s)) (hcs : P.cellsOf s = 1) (hs : P.underlying s = some (.slice e)) (he : P.underlying e = some (.int .u8))
    (hc : P.cellsOf e = 1) (hval : Value.okWide P W r base t v) (h : DataW.Trod enc P W 0 (fun _ => true) true t v d ps) : ∃ a n cap parts, v = .slice a n cap ∧ PartsAt All W (.slice a n cap) parts := by
  obtain ⟨a0, len, cap, rfl⟩ := okWide_slice ht hval
  obtain ⟨fuel, hf⟩ := h
  rcases Deep.open_slice1 ht hcs hf with ⟨h0, _⟩ | ⟨a, len', cap', m, n, V, D, Pl, h0, _, hl, hm, hmm, _, hat⟩
  · simp only [Value.cells, List.cons.injEq, and_true] at h0
    cases h0
    exact ⟨none, 0, 0, [], rfl, [], ⟨_, 0, 0, rfl, rfl, by omega, fun i x hx => by simp at hx⟩, rfl, fun i x p hx _ => by simp at hx⟩
  · simp only [Value.cells, List.cons.injEq, and_true] at h0
    cases h0
    have hml : len ≤ m := by simp only [if_true] at hmm; omega
    obtain ⟨F, hF⟩ := Deep.choose_lt (α := List (BitVec 8)) (n := len) (p := fun i bs => BytesAt All W (V i) bs) (fun i hi => by
      obtain ⟨a', n', c', bs, h1, h2⟩ := bytes_of_trod hs he hc (hat i (by omega)).2
      simp only [List.cons.injEq, and_true] at h1
      exact ⟨bs, by rw [h1]; exact h2⟩)
    unfold maxLen at hm
    refine ⟨some a, len, cap, (List.range len).map F, rfl, (List.range len).map V, ⟨_, len, cap, rfl, by simp, by omega, fun i x hx => ?_⟩, by simp, fun i x p hx hp => ?_⟩
    · have hi : i < len := by have := (List.getElem?_eq_some_iff.1 hx).1; simpa using this
      rw [List.getElem?_map, List.getElem?_range hi] at hx
      obtain rfl := Option.some.inj hx
      have h0 := (hat 0 (by omega)).1
      have hi' := (hat i (by omega)).1
      rw [show a.add 0 = a by simp [Addr.add]] at h0
      obtain ⟨b, off, rfl⟩ := addr_plain h0
      rw [Go.WideShapes.add_plain] at hi'
      exact ⟨b, off, rfl, trivial, World.block_lt_of_cell? W _ hi', hi'⟩
    · have hi : i < len := by have := (List.getElem?_eq_some_iff.1 hx).1; simpa using this
      rw [List.getElem?_map, List.getElem?_range hi] at hx hp
      obtain rfl := Option.some.inj hx
      obtain rfl := Option.some.inj hp
      exact hF i hi
theorem u64_of {a : Int} (h : (Lit.int .u64 a).wf = true) : Value.int .u64 a = U (BitVec.ofInt 64 a) := by
  have hx : 0 ≤ a ∧ a ≤ 18446744073709551615 := by simpa [Lit.wf, IntKind.min, IntKind.max, IntKind.signed, IntKind.bits] using h
  unfold U
  rw [BitVec.toNat_ofInt]
  have e : ((a % ((2 ^ 64 : Nat) : Int)).toNat : Int) = a := by
    rw [show (2 ^ 64 : Nat) = 18446744073709551616 from rfl]; omega
  rw [e]
theorem u8_of {a : Int} (h : (Lit.int .u8 a).wf = true) : Value.int .u8 a = B (BitVec.ofInt 8 a) := by
  have hx : 0 ≤ a ∧ a ≤ 255 := by simpa [Lit.wf, IntKind.min, IntKind.max, IntKind.signed, IntKind.bits] using h
  unfold B
  rw [BitVec.toNat_ofInt]
  have e : ((a % ((2 ^ 8 : Nat) : Int)).toNat : Int) = a := by
    rw [show (2 ^ 8 : Nat) = 256 from rfl]; omega
  rw [e]

/-- an array of numbers that came in -/
theorem open_intArray {W : World} {t e : TypeId} {v : Value} {d : DataW H} {ps : List MemPlace} {r : Reach} {base N : Nat} {k : IntKind} (ht : P.underlying t = some (.array N e)) (he : P.underlying e = some (.int k)) (hc : P.cellsOf e = 1)
    (hN : P.cellsOf t = N) (hval : Value.okWide P W r base t v) (h : DataW.Trod enc P W 0 (fun _ => true) true t v d ps) :
    ∃ ys : Array Value, v = .agg ys ∧ ys.size = N ∧ ∀ i, i < N → ∃ z, ys[i]? = some (.int k z) ∧ (Lit.int k z).wf = true := by
  unfold Value.okWide at hval
  rw [ht] at hval
  obtain ⟨ys, rfl, hs, _⟩ := hval
  obtain ⟨fuel, hf⟩ := h
  obtain ⟨xs, m, rfl, _, hl, hx, hat⟩ := DataW.trod_array ht hf
  have hcs : (Value.agg ys).cells = ys := rfl
  rw [hcs] at hat
  refine ⟨ys, rfl, by rw [hs, hN], fun i hi => ?_⟩
  have hi2 := hat i hi
  rw [List.getElem?_eq_getElem (by omega), hc, Nat.mul_one] at hi2
  obtain ⟨z, hz, _, hw⟩ := DataW.trod_int he hi2
  refine ⟨z, ?_, hw⟩
  have h0 : ((ys.toList.drop i).take 1)[0]? = some (.int k z) := by rw [hz]; rfl
  rw [List.getElem?_take_of_lt (by omega), List.getElem?_drop, Nat.add_zero] at h0
  simpa using h0
def byteOf : Option Value → BitVec 8
  | some (.int _ z) => BitVec.ofInt 8 z
  | _ => 0
theorem open_byteArray {W : World} {t e : TypeId} {v : Value} {d : DataW H} {ps : List MemPlace} {r : Reach} {base N : Nat} (ht : P.underlying t = some (.array N e)) (he : P.underlying e = some (.int .u8)) (hc : P.cellsOf e = 1)
    (hN : P.cellsOf t = N) (hval : Value.okWide P W r base t v) (h : DataW.Trod enc P W 0 (fun _ => true) true t v d ps) :
    ∃ (ys : Array Value) (y : List (BitVec 8)), v = .agg ys ∧ y.length = N ∧ ys = (y.map B).toArray := by
  obtain ⟨ys, rfl, hs, hat⟩ := open_intArray ht he hc hN hval h
  refine ⟨ys, (List.range N).map fun i => byteOf ys[i]?, rfl, by simp, ?_⟩
  apply Array.ext_getElem?
  intro i
  by_cases hi : i < N
  · obtain ⟨z, hz, hw⟩ := hat i hi
    rw [hz, List.getElem?_toArray, List.getElem?_map, List.getElem?_map, List.getElem?_range hi]
    simp only [Option.map_some, hz, byteOf]
    rw [u8_of hw]
  · rw [Array.getElem?_eq_none (by omega), List.getElem?_toArray, List.getElem?_eq_none (by simp; omega)]

theorem bytes_get {y : List (BitVec 8)} {N : Nat} (hl : y.length = N) : ∀ i, i < N → (y.map B).toArray[i]? = some (B (y.getD i 0)) := by
  intro i hi
  rw [List.getElem?_toArray, List.getElem?_map, List.getD_eq_getElem?_getD, List.getElem?_eq_getElem (by omega)]; rfl

theorem Agrees.below' {W W' : World} (h : Agrees All W W') : Below W.heap.size W W' := h.below (fun _ _ => trivial) (Nat.le_refl _)

/-- the row's word behind a call that returns true and keeps all that was there -/
theorem post_law {f : Func} {s : ChangeSpec} {W W' : World} {args : Array Value} {ds gs : List (DataW H)} {before : List MemPlace} {tb : TypeId} (hl : laidOutB P = true)
    (htb : (f.params.toList.all fun t => P.readableRec t && decide (t < P.types.size)) = true) (hW : DataW.Whole enc P f.params.toList s.vars false W args.toList ds gs before)
    (hvars : s.vars = []) (hres : f.resultTypes = #[tb]) (hu : P.underlying tb = some .bool)
    (hs1 : (s.fn H ds).results = [.lit (.bool true)]) (hs2 : (s.fn H ds).args = ds) (hs3 : (s.fn H ds).vars = []) (hag : Agrees All W W') :
    s.post enc P f false true false false W args (.bool true) W' := by
  have hts : ∀ t ∈ f.params.toList, P.readableRec t = true ∧ t < P.types.size := fun t ht => by
    have := List.all_eq_true.1 htb t ht
    simpa using this
  have hb := hag.below'
  have hlt := hW.lt
  have hW' := hW
  obtain ⟨p, q, hA, hV, rfl, hfz, hnd⟩ := hW
  rw [hvars] at hV
  cases gs with
  | cons g gs => exact hV.elim
  | nil =>
    obtain rfl : q = [] := hV
    refine ⟨ds, [], _, [], p, [], hW', ?_, ?_, ?_, hb.frame _, fun h => by cases h⟩
    · rw [hres, List.append_nil, hs1]
      exact ⟨[], [], shut_bool hu true, rfl, rfl⟩
    · rw [List.append_nil, hs2]
      exact trodAll_stays hl _ _ _ _ hts hA (fun x hx => hb.same (hlt x (List.mem_append_left _ hx))) (fun x hx => by simpa using hlt x (List.mem_append_left _ hx))
    · rw [List.append_nil, hvars, hs3]; rfl
end
end Suture
