/-
  suturelaw05.PtrBack: what is put is taken again, and what is behind it left; and what is put stands in memory of its own.
  Conditions: the widths are where they were laid.
-/
import Derived.Test.YtmkbchhmeaefeaaDoorBackLaw
namespace Suture
open Go Go.RowKit Go.Proofs
attribute [local go_sem] Oper.semAt_some

def vBack4 (n1 c1 cg g : Nat) (a1 : Option Addr) (x : Ptr) : Nat → Value → Prop
  | 0, val => val = .slice (some ⟨g, 0, none⟩) (n1 + 3) cg
  | 1, val => val = .slice a1 n1 c1
  | 2, val => val = .int .i64 (n1 : Int)
  | 3, val => val = .slice (slA (some ⟨g, 0, none⟩) 0 cg) (n1 - 0) (cg - 0)
  | 4, val => val = .agg x.cells
  | 5, _ => True
  | 6, _ => True
  | _, _ => True

set_option maxHeartbeats 4000000 in
set_option maxRecDepth 100000 in
theorem ptrBack_calls (x : Ptr) (hx : x.ok) (a1 : Option Addr) (n1 c1 : Nat) (bs1 : List (BitVec 8)) (a2 : Option Addr) (n2 c2 : Nat) (bs2 : List (BitVec 8)) (w : World) (h1 : BytesAt All w (.slice a1 n1 c1) bs1) (h2 : BytesAt All w (.slice a2 n2 c2) bs2) (hg : Laid w) :
    Calls Tryd.prog 3 #[.agg x.cells, .slice a1 n1 c1, .slice a2 n2 c2] w fun e w' => e = .returned (.bool true) ∧ Agrees All w w' := by
  have HG := Lib.hid hg
  have H1 := Lib.hid h1
  have H2 := Lib.hid h2
  have hl1 := h1.len
  have hl2 := h2.len
  have HL1 := Lib.hid hl1
  have HL2 := Lib.hid hl2
  clear hg h1 h2 hl1 hl2
  obtain ⟨W1, hW1⟩ : ∃ W1, w.alloc (.cells x.cells 27) = W1 := ⟨_, rfl⟩
  have hA1 : Agrees All w W1 := by rw [← hW1]; exact (Agrees.refl _ w).alloc _
  have hxr1 : W1.heap[w.heap.size]? = some (.cells x.cells 27 (0, 0)) := by rw [← hW1]; exact World.alloc_heap_new w _
  have HA1 := Lib.hid hA1
  have HX1 := Lib.hid hxr1
  clear hA1 hxr1
  by_cases hbig : 100 < n1 ∨ 100 < n2
  · rcases Classical.em (100 < n1) with hb | hb
    all_goals
      have hb2 : 100 < n1 ∨ 100 < n2 := hbig
      go_enter Tryd.func3, Tryd.ntmps3
      go_wp2_with fail
      first
        | (refine (wakes05_calls _ (HG.out.agrees HA1.out)).mono ?_
           rintro e w5 ⟨rfl, hg5⟩
           have HA5 := Lib.hid (HA1.out.trans hg5)
           clear hg5
           go_wp2_with fail
           go_ret
           exact ⟨rfl, HA5.out⟩)
        | (exfalso; omega)
  · have hn1 : n1 ≤ 100 := by omega
    have hn2 : n2 ≤ 100 := by omega
    obtain ⟨i0, hi, hz0, hz1, hz2⟩ := info_parts infoU8
    obtain ⟨W2, hW2⟩ : ∃ W2, W1.alloc (.cells #[] 5) = W2 := ⟨_, rfl⟩
    have HA2 := Lib.hid (show Agrees All w W2 by rw [← hW2]; exact HA1.out.alloc _)
    have HX2 := Lib.hid (show W2.heap[w.heap.size]? = some (.cells x.cells 27 (0, 0)) by rw [← hW2, heap_alloc_old _ _ (Array.getElem?_eq_some_iff.1 HX1.out).1]; exact HX1.out)
    have hs1 : W1.heap.size = w.heap.size + 1 := by rw [← hW1]; simp
    have HO2 := Lib.hid (show W2.ownsRow (w.heap.size + 1) 5 1 (.slice (some ⟨w.heap.size + 1, 0, none⟩) 0 0) 0 [] from ⟨rfl, .inr ⟨w.heap.size + 1, 0, #[], rfl, Nat.le_refl _, by rw [← hW2, ← hs1]; exact World.alloc_heap_new _ _, Nat.le_refl _, Nat.zero_le _, rfl, rfl⟩⟩)
    have hs2 : w.heap.size + 1 ≤ W2.heap.size := by rw [← hs1, ← hW2]; simp
    clear hbig
    go_enter Tryd.func3, Tryd.ntmps3
    have one : ∀ (bs : List (BitVec 8)) (u : Value), u ∈ bs.map B → u.oneCell' = true := fun bs u hu => by obtain ⟨x, _, rfl⟩ := List.mem_map.1 hu; rfl
    have HONE := Lib.hid one
    clear one
    go_wp2_with (at_builtin; refine wpList_append_from rfl _ _ 28 rfl (w.heap.size + 1) 5 i0 (.int .u8 0) 1 1 Tryd.underlying28 hi hz0 hz1 hz2 rfl (by decide) (.slice (some ⟨w.heap.size + 1, 0, none⟩) 0 0) 0 [] rfl HO2.out (.slice a1 n1 c1) n1 (bs1.map B) rfl (by have := cells_of_bytes (H1.out.agrees HA2.out fun _ h => h); rwa [HL1.out] at this) (HONE.out bs1) (by simp only [maxLen]; omega) (by omega) hs2 ?_)
    intro v3 w3 hown3 hgr3
    have hag3 : Agrees All w w3 := HA2.out.grown hgr3 (fun b hb => by simp [Value.ownBlock] at hb; omega)
    have HA3 := Lib.hid hag3
    have HX3 := Lib.hid (show w3.heap[w.heap.size]? = some (.cells x.cells 27 (0, 0)) by rw [hgr3.block _ (Array.getElem?_eq_some_iff.1 HX2.out).1 (by simp [Value.ownBlock])]; exact HX2.out)
    have hown3' : w3.ownsRow (w.heap.size + 1) 5 1 v3 n1 (bs1.map B) := by simpa using hown3
    obtain ⟨W4, hW4⟩ : ∃ W4, w3.alloc (.cells #[.int .u8 77, .int .u8 78, .int .u8 79] 5) = W4 := ⟨_, rfl⟩
    have HO4 := Lib.hid (show W4.ownsRow (w.heap.size + 1) 5 1 v3 n1 (bs1.map B) by rw [← hW4]; exact hown3'.alloc _)
    have HA4 := Lib.hid (show Agrees All w W4 by rw [← hW4]; exact hag3.alloc _)
    have HX4 := Lib.hid (show W4.heap[w.heap.size]? = some (.cells x.cells 27 (0, 0)) by rw [← hW4, heap_alloc_old _ _ (Array.getElem?_eq_some_iff.1 HX3.out).1]; exact HX3.out)
    have HR4 := Lib.hid (show W4.heap[w3.heap.size]? = some (.cells #[.int .u8 77, .int .u8 78, .int .u8 79] 5 (0, 0)) by rw [← hW4]; exact World.alloc_heap_new _ _)
    have hs4 : w.heap.size + 1 ≤ W4.heap.size := by rw [← hW4]; have := hgr3.size; simp; omega
    have HS4 : RowKit.Hid (CellsAt All W4 (.slice (some ⟨w3.heap.size, 0, none⟩) 3 3) 1 3 [.int .u8 77, .int .u8 78, .int .u8 79]) := ⟨_, 3, rfl, rfl, by omega, fun j u hu => ⟨w3.heap.size, 0, rfl, trivial, (Array.getElem?_eq_some_iff.1 HR4.out).1, by rw [Nat.zero_add, cell_of_row _ _ _ _ _ _ HR4.out]; simpa using hu⟩⟩
    have HT4 : RowKit.Hid (∀ u ∈ [Value.int .u8 77, .int .u8 78, .int .u8 79], u.oneCell' = true) := by intro u hu; simp at hu; rcases hu with rfl | rfl | rfl <;> rfl
    clear hown3 hgr3 hown3' hag3 HX3 HA3 HO2 HX2 HA2 hW2 hs2
    go_wp2_with (at_builtin; refine wpList_append_from rfl _ _ 28 rfl (w.heap.size + 1) 5 i0 (.int .u8 0) 1 1 Tryd.underlying28 hi hz0 hz1 hz2 rfl (by decide) v3 n1 (bs1.map B) rfl HO4.out (.slice (some ⟨w3.heap.size, 0, none⟩) 3 3) 3 [.int .u8 77, .int .u8 78, .int .u8 79] rfl HS4.out HT4.out (by simp only [maxLen]; omega) (by omega) hs4 ?_)
    intro v5 w5 hown5 hgr5
    have hlt3 : ∀ b, v3.ownBlock = some b → w.heap.size + 1 ≤ b := fun b hb => (HO4.out.lt b hb).1
    have hag5 : Agrees All w w5 := HA4.out.grown hgr5 (fun b hb => by have := hlt3 b hb; omega)
    have hxr5 : w5.heap[w.heap.size]? = some (.cells x.cells 27 (0, 0)) := by
      rw [hgr5.block _ (Array.getElem?_eq_some_iff.1 HX4.out).1 (fun e => by have := hlt3 _ e.symm; omega)]; exact HX4.out
    obtain ⟨g, cg, cur, rfl, hgr, hcur⟩ := own_row hown5 (by omega)
    have hcg : n1 + 3 ≤ cg := by
      rcases hown5.2 with ⟨_, h⟩ | ⟨g', cap, cur', he, _, _, hc, _⟩
      · omega
      · simp at he; omega
    have hb5 : BytesAt All w5 (.slice (some ⟨g, 0, none⟩) (n1 + 3) cg) (bs1 ++ [77#8, 78#8, 79#8]) := by
      have hh : bs1.map B ++ [.int .u8 77, .int .u8 78, .int .u8 79] = (bs1 ++ [77#8, 78#8, 79#8]).map B := by rw [List.map_append]; rfl
      rw [hh] at hown5
      exact own_bytes hown5
    have hc77 : cur[n1]? = some (.int .u8 77) := by
      rw [hcur n1 (by omega), List.getElem?_append_right (by simp [HL1.out])]
      simp [HL1.out]
    have HA5 := Lib.hid hag5
    have HX5 := Lib.hid hxr5
    have HG5 := Lib.hid hgr
    have HB5 := Lib.hid hb5
    have HC5 := Lib.hid hc77
    clear hown5 hgr5 hag5 hxr5 hgr hb5 hcur hc77 HR4 HO4 HA4 HX4 hW4 hs4 hlt3
    go_wp2_with fail
    obtain ⟨W0, hW0⟩ : ∃ W0, w5.drew = W0 := ⟨_, rfl⟩
    have HA0 := Lib.hid (show Agrees All w W0 by rw [← hW0]; exact HA5.out.drew)
    have hxr : W0.heap[w.heap.size]? = some (.cells x.cells 27 (0, 0)) := by rw [← hW0]; exact HX5.out
    have HXR0 := Lib.hid hxr
    have HGR0 := Lib.hid (show W0.heap[g]? = some (.cells cur 5 (0, 0)) by rw [← hW0]; exact HG5.out)
    have hlaid : Laid W0 := HG.out.agrees HA0.out
    have hrb : BytesAt All W0 (.slice (slA (some ⟨g, 0, none⟩) 0 cg) (n1 - 0) (cg - 0)) bs1 := by
      have h1 := BytesAt.slice HB5.out 0 n1 (by omega) (by omega)
      rw [List.drop_zero, Nat.sub_zero, List.take_append_of_le_length (Nat.le_of_eq HL1.out.symm), List.take_of_length_le (Nat.le_of_eq HL1.out)] at h1
      rw [← hW0]
      exact h1.agrees (Agrees.refl All _).drew fun _ h => h
    refine wp_region_plan (by kernel_rfl) ?hok4 (by kernel_rfl) (vBack4 n1 c1 cg g a1 x) (fun L vals W => Agrees All W0 W ∧ (L 5 = true → BytesAt All W (vals 5) (bs1 ++ x.bytes)) ∧ (L 6 = true → BytesAt All W (vals 6) (bs1 ++ x.bytes))) ?h04 (fun i hi => ?steps4) ?hend4
    case hok4 => kernel_rfl
    case h04 => exact fun vals => ⟨by rw [hW0]; exact Agrees.refl _ _, (fun h => by cases h), (fun h => by cases h)⟩
    case steps4 =>
      generalize w.heap.size = xb at *
      have hi' : i < 7 := hi
      match i, hi' with
      | 0, _ =>
        refine steps_of rfl ?_
        intro L aq wq hL hd st wi
        have o7 := st.outside (t := 7) rfl (v := .slice (some ⟨g, 0, none⟩) (n1 + 3) cg) rfl
        refine opTo_val (v := .slice (some ⟨g, 0, none⟩) (n1 + 3) cg) rfl (ex_move (.inl rfl) (eval_tmp o7)) ⟨(fun h => by cases h), rfl, wi.1, fun h => ?_, fun h => ?_⟩
        · simpa [updV] using wi.2.1 (by simpa [setL] using h)
        · simpa [updV] using wi.2.2 (by simpa [setL] using h)
      | 1, _ =>
        refine steps_of rfl ?_
        intro L aq wq hL hd st wi
        have o1 := st.outside (t := 1) rfl (v := .slice a1 n1 c1) rfl
        refine opTo_val (v := .slice a1 n1 c1) rfl (ex_move (.inl rfl) (eval_tmp o1)) ⟨(fun h => by cases h), rfl, wi.1, fun h => ?_, fun h => ?_⟩
        · simpa [updV] using wi.2.1 (by simpa [setL] using h)
        · simpa [updV] using wi.2.2 (by simpa [setL] using h)
      | 2, _ =>
        refine steps_of rfl ?_
        intro L aq wq hL hd st wi
        obtain ⟨u1, e1, V1⟩ := st.val 1 _ _ rfl rfl (hd ⟨1, .data⟩ (by simp) rfl)
        obtain rfl : .slice a1 n1 c1 = u1 := V1.symm
        refine opTo_val (v := .int .i64 (n1 : Int)) rfl (by simp [go_sem, Act.eval, e1]) ⟨(fun h => by cases h), rfl, wi.1, fun h => ?_, fun h => ?_⟩
        · simpa [updV] using wi.2.1 (by simpa [setL] using h)
        · simpa [updV] using wi.2.2 (by simpa [setL] using h)
      | 3, _ =>
        refine steps_of rfl ?_
        intro L aq wq hL hd st wi
        obtain ⟨u0, e0, V0⟩ := st.val 0 _ _ rfl rfl (hd ⟨0, .data⟩ (by simp) rfl)
        obtain rfl : .slice (some ⟨g, 0, none⟩) (n1 + 3) cg = u0 := V0.symm
        obtain ⟨u2, e2, V2⟩ := st.val 2 _ _ rfl rfl (hd ⟨2, .data⟩ (by simp) rfl)
        obtain rfl : .int .i64 (n1 : Int) = u2 := V2.symm
        refine opTo_val (v := .slice (slA (some ⟨g, 0, none⟩) 0 cg) (n1 - 0) (cg - 0)) rfl (ex_slice rfl Tryd.underlying28 (by kernel_rfl) (some ⟨g, 0, none⟩) (n1 + 3) cg 0 n1 (eval_tmp e0) (.inr ⟨rfl, rfl⟩) (.inl (by simp [Act.eval, e2])) (by omega) (by omega)) ⟨(fun h => by cases h), rfl, wi.1, fun h => ?_, fun h => ?_⟩
        · simpa [updV] using wi.2.1 (by simpa [setL] using h)
        · simpa [updV] using wi.2.2 (by simpa [setL] using h)
      | 4, _ =>
        refine steps_of rfl ?_
        intro L aq wq hL hd st wi
        have o3 := st.outside (t := 3) rfl (v := .pointer (some ⟨xb, 0, none⟩)) rfl
        refine opTo_val (v := .agg x.cells) rfl (ex_load rfl isAgg_ptr xb 0 (eval_tmp o3) x.cells rfl (x.load ((wi.1.block _ (Array.getElem?_eq_some_iff.1 hxr).1 trivial).trans hxr))) ⟨(fun h => by cases h), rfl, wi.1, fun h => ?_, fun h => ?_⟩
        · simpa [updV] using wi.2.1 (by simpa [setL] using h)
        · simpa [updV] using wi.2.2 (by simpa [setL] using h)
      | 5, _ =>
        refine steps_of rfl ?_
        intro L aq wq hL hd st wi
        obtain ⟨u3, e3, V3⟩ := st.val 3 _ _ rfl rfl (hd ⟨3, .data⟩ (by simp) rfl)
        obtain rfl : .slice (slA (some ⟨g, 0, none⟩) 0 cg) (n1 - 0) (cg - 0) = u3 := V3.symm
        obtain ⟨u4, e4, V4⟩ := st.val 4 _ _ rfl rfl (hd ⟨4, .data⟩ (by simp) rfl)
        obtain rfl : .agg x.cells = u4 := V4.symm
        have hb5 : BytesAt All wq (.slice (slA (some ⟨g, 0, none⟩) 0 cg) (n1 - 0) (cg - 0)) bs1 := BytesAt.agrees hrb wi.1 fun _ h => h
        refine opTo_call (w' := wq) (f := 7) (args := #[.slice (slA (some ⟨g, 0, none⟩) 0 cg) (n1 - 0) (cg - 0), .agg x.cells]) rfl (by simp [go_sem, Act.eval, e3, e4]) ((ptrPut_calls _ _ _ bs1 x hx wq (by omega) hb5 (hlaid.agrees wi.1)).mono ?_)
        rintro e w' ⟨v5, rfl, hb, hag⟩
        refine ⟨v5, rfl, (fun h => by cases h), trivial, wi.1.trans hag, fun _ => by simpa [updV] using hb, fun h => ?_⟩
        have h5 := st.closed 6 _ rfl (show L 6 = true from h) ⟨5, .data⟩ (by simp) rfl
        rw [hL] at h5; cases h5
      | 6, _ =>
        refine steps_of rfl ?_
        intro L aq wq hL hd st wi
        obtain ⟨u5, e5, V5⟩ := st.val 5 _ _ rfl rfl (hd ⟨5, .data⟩ (by simp) rfl)
        have h5 := hd ⟨5, .data⟩ (by simp) rfl
        have hb := wi.2.1 h5
        rw [slotV_val rfl rfl e5] at hb
        exact opTo_val (v := u5) rfl (ex_move (.inr rfl) (eval_tmp e5)) ⟨(fun h => by cases h), trivial, wi.1, fun h => by simpa [updV] using wi.2.1 h5, fun _ => by simpa [updV] using hb⟩
      | (i + 7), h => omega
    case hend4 =>
      intro vals w' hV hW
      have hb6 := hW.2.2 rfl
      obtain ⟨v6, hv6⟩ : ∃ v6, vals 6 = v6 := ⟨_, rfl⟩
      rw [hv6] at hb6
      have HA6 := Lib.hid (HA0.out.trans hW.1)
      have HXR := Lib.hid ((hW.1.block _ (Array.getElem?_eq_some_iff.1 HXR0.out).1 trivial).trans HXR0.out)
      have HGR := Lib.hid ((hW.1.block _ (Array.getElem?_eq_some_iff.1 HGR0.out).1 trivial).trans HGR0.out)
      simp only [putAll, Act.put, List.setIfInBounds_toArray, List.set_cons_succ, List.set_cons_zero, hv6]
      obtain ⟨a6, m6, c6, rfl, hm6, hc6, _⟩ := id hb6
      have hm6' : m6 = n1 + 17 := by rw [← hm6]; simp [HL1.out, bytes_length]
      subst hm6'
      have HB6 := Lib.hid hb6
      clear hV hW hv6 hb6 hm6 hxr hrb hlaid HXR0 HGR0 HA0 hW0 HB5 HG5 HX5 HA5
      have hb1 : BytesAt All w' (.slice a6 n1 c6) bs1 := by
        have h := HB6.out.prefix (m := n1) (by omega)
        rwa [List.take_append_of_le_length (Nat.le_of_eq HL1.out.symm), List.take_of_length_le (Nat.le_of_eq HL1.out)] at h
      have HB1 := Lib.hid hb1
      have hc77 : w'.cell? ⟨g, n1, none⟩ = some (.int .u8 77) := by rw [cell_of_row _ _ _ _ _ _ HGR.out]; exact HC5.out
      clear hb1
      go_wp2_with fail
      refine (same_calls a6 n1 c6 bs1 a1 n1 c1 bs1 w' HB1.out (H1.out.agrees HA6.out fun _ h => h)).mono ?_
      rintro e w7 ⟨rfl, rfl⟩
      rw [show (bs1 == bs1) = true by simp]
      have HSL := Lib.hid (show BytesAt All w' (.slice (slA a6 n1 c6) 17 (c6 - n1)) x.bytes by
        have h := HB6.out.slice n1 (n1 + 17) (by omega) (by omega)
        rw [List.drop_append_of_le_length (Nat.le_of_eq HL1.out.symm), List.drop_of_length_le (Nat.le_of_eq HL1.out), List.nil_append, show n1 + 17 - n1 = 17 by omega, List.take_of_length_le (by rw [bytes_length]; exact Nat.le_refl _)] at h
        exact h)
      obtain ⟨W7, hW7⟩ : ∃ W7, w'.alloc (.cells #[] 5) = W7 := ⟨_, rfl⟩
      have HA7' := Lib.hid (show Agrees All w' W7 by rw [← hW7]; exact (Agrees.refl _ _).alloc _)
      have HO7 := Lib.hid (show W7.ownsRow w'.heap.size 5 1 (.slice (some ⟨w'.heap.size, 0, none⟩) 0 0) 0 [] from ⟨rfl, .inr ⟨w'.heap.size, 0, #[], rfl, Nat.le_refl _, by rw [← hW7]; exact World.alloc_heap_new _ _, Nat.le_refl _, Nat.zero_le _, rfl, rfl⟩⟩)
      have hs7 : w'.heap.size ≤ W7.heap.size := by rw [← hW7]; simp
      have HSC := Lib.hid (show CellsAt All W7 (.slice (slA a6 n1 c6) 17 (c6 - n1)) 1 17 (x.bytes.map B) by
        have h := cells_of_bytes (BytesAt.agrees HSL.out HA7'.out fun _ h => h)
        rwa [bytes_length] at h)
      have hsz6 := HA6.out.size
      clear HSL
      go_wp2_with (first | (refine wpList_val rfl (ex_slice rfl Tryd.underlying28 (by kernel_rfl) a6 (n1 + 17) c6 n1 (n1 + 17) rfl (.inl rfl) (.inr ⟨rfl, rfl⟩) (by omega) (by omega)) ?_; rw [show n1 + 17 - n1 = 17 by omega]) | at_builtin; refine wpList_append_from rfl _ _ 28 rfl w'.heap.size 5 i0 (.int .u8 0) 1 1 Tryd.underlying28 hi hz0 hz1 hz2 rfl (by decide) (.slice (some ⟨w'.heap.size, 0, none⟩) 0 0) 0 [] rfl HO7.out (.slice (slA a6 n1 c6) 17 (c6 - n1)) 17 (x.bytes.map B) rfl HSC.out (HONE.out _) (by simp only [maxLen]; omega) (by omega) hs7 ?_)
      intro v8 w8 hown8 hgr8
      have hown8' : w8.ownsRow w'.heap.size 5 1 v8 17 (x.bytes.map B) := by simpa using hown8
      have hag8 : Agrees All w' w8 := HA7'.out.grown hgr8 (fun b hb => by simp [Value.ownBlock] at hb; omega)
      have HA8 := Lib.hid hag8
      have HO8 := Lib.hid hown8'
      have hs8 : w'.heap.size ≤ w8.heap.size := hag8.size
      have HSC2 := Lib.hid (show CellsAt All w8 (.slice a2 n2 c2) 1 n2 (bs2.map B) by
        have h := cells_of_bytes (H2.out.agrees (HA6.out.trans hag8) fun _ h => h)
        rwa [HL2.out] at h)
      clear hown8 hown8' hag8 hgr8 HSC HO7 HA7' hW7
      go_wp2_with (at_builtin; refine wpList_append_from rfl _ _ 28 rfl w'.heap.size 5 i0 (.int .u8 0) 1 1 Tryd.underlying28 hi hz0 hz1 hz2 rfl (by decide) v8 17 (x.bytes.map B) rfl HO8.out (.slice a2 n2 c2) n2 (bs2.map B) rfl HSC2.out (HONE.out _) (by simp only [maxLen]; omega) (by omega) hs8 ?_)
      intro v9 w9 hown9 hgr9
      have hlt8 : ∀ b, v8.ownBlock = some b → w'.heap.size ≤ b := fun b hb => (HO8.out.lt b hb).1
      have hag9 : Agrees All w' w9 := HA8.out.grown hgr9 (fun b hb => hlt8 b hb)
      have hb9 : BytesAt All w9 v9 (x.bytes ++ bs2) := by
        rw [← List.map_append] at hown9
        exact own_bytes hown9
      obtain ⟨a9, m9, c9, rfl, hm9, _, _⟩ := id hb9
      have hm9' : m9 = 17 + n2 := by rw [← hm9]; simp [HL2.out, bytes_length]
      subst hm9'
      have HA9 := Lib.hid (HA6.out.trans hag9)
      have HX9 := Lib.hid ((hag9.block _ (Array.getElem?_eq_some_iff.1 HXR.out).1 trivial).trans HXR.out)
      have HB9 := Lib.hid hb9
      clear hown9 hgr9 hag9 hb9 hm9 HSC2 HO8 HA8 HB1 HXR HGR HB6 hlt8
      go_wp2_with fail
      refine (take_calls a9 (17 + n2) c9 (x.bytes ++ bs2) (by omega) w9 HB9.out (HG.out.agrees HA9.out)).mono ?_
      rintro e w10 ⟨v10, rfl, hb10, hag10⟩
      rw [take_back x hx bs2]
      have hd : (x.bytes ++ bs2).drop 17 = bs2 := by rw [← bytes_length x]; simp
      rw [hd] at hb10
      obtain ⟨a10, m10, c10, rfl, hm10, _, _⟩ := id hb10
      have hm10' : m10 = n2 := by rw [← hm10]; simp [HL2.out]
      subst hm10'
      have HA10 := Lib.hid (HA9.out.trans hag10)
      have HX10 := Lib.hid ((hag10.block _ (Array.getElem?_eq_some_iff.1 HX9.out).1 trivial).trans HX9.out)
      have HB10 := Lib.hid hb10
      obtain ⟨W11, hW11⟩ : ∃ W11, w10.alloc (.cells Ptr.zero.cells 27) = W11 := ⟨_, rfl⟩
      have HP11 := Lib.hid (show W11.heap[w10.heap.size]? = some (.cells Ptr.zero.cells 27 (0, 0)) by rw [← hW11]; exact World.alloc_heap_new _ _)
      have hA11 : Agrees All w10 W11 := by rw [← hW11]; exact (Agrees.refl _ _).alloc _
      obtain ⟨W12, hW12⟩ : ∃ W12, W11.setRow w10.heap.size x.cells = W12 := ⟨_, rfl⟩
      have hA12 : Agrees All w10 W12 := by rw [← hW12]; exact hA11.setRow (.inr (Nat.le_refl _)) _
      have HY12 := Lib.hid (show W12.heap[w10.heap.size]? = some (.cells x.cells 27 (0, 0)) by rw [← hW12]; exact setRow_heap _ _ _ _ _ _ HP11.out)
      have HX12 := Lib.hid (show W12.heap[w.heap.size]? = some (.cells x.cells 27 (0, 0)) from (hA12.block _ (Array.getElem?_eq_some_iff.1 HX10.out).1 trivial).trans HX10.out)
      have HA12 := Lib.hid (HA10.out.trans hA12)
      have HB12 := Lib.hid (BytesAt.agrees HB10.out hA12 fun _ h => h)
      have HK := Lib.hid (keyed_ptr x hx)
      have HZ : RowKit.Hid (#[.int .u8 0, .int .u16 0, .int .u16 0, .int .u32 0, .int .u64 0] = Ptr.zero.cells) := rfl
      clear hb10 hag10 hm10 hd hA11 hA12 HB9 HA9 HX9 HX10 HA10 HB10
      go_wp2_with (first | (refine wpList_val rfl (ex_alloc rfl (.agg Ptr.zero.cells) (fun w => by simp [go_sem]; rfl)) ?_; rw [show (Value.agg Ptr.zero.cells).cells = Ptr.zero.cells from rfl, hW11]) | (refine wpList_unit rfl (ex_storeAll (ty := 27) rfl isAgg_ptr.2 w10.heap.size rfl x.cells Ptr.zero.cells rfl rfl HP11.out rfl x.one) ?_; rw [hW12]) | (refine wpList_val rfl (ex_load (ty := 27) rfl isAgg_ptr w10.heap.size 0 rfl x.cells rfl (x.load HY12.out)) ?_) | (refine wpList_val rfl (ex_load (ty := 27) rfl isAgg_ptr w.heap.size 0 rfl x.cells rfl (x.load HX12.out)) ?_) | (refine wpList_eql keyable_ptr HK.out HK.out rfl rfl rfl rfl ?_; intro r hr; obtain rfl := hr.2 rfl))
      refine (same_calls a10 m10 c10 bs2 a2 m10 c2 bs2 W12 HB12.out (H2.out.agrees HA12.out fun _ h => h)).mono ?_
      rintro e w13 ⟨rfl, rfl⟩
      rw [show (bs2 == bs2) = true by simp]
      go_wp2_with fail
      refine (wakes05_calls _ (HG.out.agrees HA12.out)).mono ?_
      rintro e w14 ⟨rfl, hg14⟩
      have HA14 := Lib.hid (HA12.out.trans hg14)
      clear hg14
      go_wp2_with fail
      go_ret
      exact ⟨rfl, HA14.out⟩
end Suture
