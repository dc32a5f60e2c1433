/-
  suturelaw05.wakes: what the document says of none.
  Conditions: the widths are where they were laid.
-/
import Derived.Test.YtmkbchhmeaefeaaDoorPtr6
namespace Suture
open Go Go.RowKit Go.Proofs

def page1 : List (BitVec 8) := 1#8 :: List.replicate 255 0#8
def page2 : List (BitVec 8) := 2#8 :: List.replicate 255 0#8
theorem page_ne : (sum page1 == sum page2) = false := by
  have h := sum_burst [] [1#8] [2#8] (List.replicate 255 0#8) rfl (by decide)
  have hne : sum page1 ≠ sum page2 := fun e => by
    have := h.1 e
    simp at this
  simpa using hne
theorem build_page1 (w : World) : (Instr.build 37 #[(0, .int .u8 1)]).run Tryd.prog w = .ok (.agg (pageCells page1)) w := by
  rw [pageCells_def]
  kernel_rfl
theorem build_page2 (w : World) : (Instr.build 37 #[(0, .int .u8 2)]).run Tryd.prog w = .ok (.agg (pageCells page2)) w := by
  rw [pageCells_def]
  kernel_rfl

theorem ex_build1 {o : Oper} {a : Act} {w : World} (ho : o.op = .build 37 #[(0, .const (.int .u8 1))]) : (execOp a.eval o).run Tryd.prog w = .ok (.value (.agg (pageCells page1))) w := by
  unfold execOp
  simp only [ho, List.map_toArray, List.map_cons, List.map_nil, Act.eval, Sem.run_bind, build_page1, Result.andThen_ok]
  rfl
theorem ex_build2 {o : Oper} {a : Act} {w : World} (ho : o.op = .build 37 #[(0, .const (.int .u8 2))]) : (execOp a.eval o).run Tryd.prog w = .ok (.value (.agg (pageCells page2))) w := by
  unfold execOp
  simp only [ho, List.map_toArray, List.map_cons, List.map_nil, Act.eval, Sem.run_bind, build_page2, Result.andThen_ok]
  rfl
def xw : Ptr := ptrOf 1 4 5 1 page1
theorem xw_cells : xw = ⟨1, 4, 5, 1, sum page1⟩ := by
  unfold xw ptrOf
  rfl
theorem zero_bytes : Ptr.zero.bytes = List.replicate 17 0#8 := by decide +kernel
set_option maxHeartbeats 2000000 in
set_option maxRecDepth 100000 in
theorem wakes05_calls (w : World) (hg : Laid w) : Calls Tryd.prog 6 #[] w fun e w' => e = .returned (.bool true) ∧ Agrees All w w' := by
  have HG := Lib.hid hg
  clear hg
  go_enter Tryd.func6, Tryd.ntmps6
  go_wp2_with fail
  refine (ptrPut_calls none 0 0 [] Ptr.zero Ptr.zero_ok w (by omega) (bytesAt_nil _ _) HG.out).mono ?_
  rintro e w1 ⟨v1, rfl, hb1, hag1⟩
  rw [List.nil_append, zero_bytes] at hb1
  obtain ⟨a1, n1, c1, rfl, hn1, _⟩ := id hb1
  have hn1' : n1 = 17 := by rw [← hn1]; rfl
  subst hn1'
  have HB1 := Lib.hid hb1
  have HA1 := Lib.hid hag1
  clear hb1 hag1 hn1
  obtain ⟨mc, hmk⟩ : ∃ mc, ∀ W : World, (Instr.makeSlice 28 (.int .i64 16) (.int .i64 16)).run Tryd.prog W = .ok (.slice (some ⟨W.heap.size, 0, none⟩) 16 16) (W.alloc (.cells mc 5)) := by
    obtain ⟨i0, hi0, hz0, hz1, hz2⟩ := info_parts infoU8
    refine ⟨madeCells (Value.int .u8 0).cells ((16 : Int).toNat * i0.size), fun W => ?_⟩
    have h := run_makeSlice (P := Tryd.prog) W 28 5 i0 (.int .u8 0) Tryd.underlying28 hi0 hz0 .i64 .i64 16 16 (by decide) (by decide) (by rw [hz1]; decide) (by rw [hz2]; decide) (by decide)
    exact h
  go_wp2_with fail
  clear hmk
  refine (take_short _ 16 16 (by omega) _).mono ?_
  rintro e w2 ⟨rfl, hag2⟩
  have hA2 : Agrees All w1 w2 := ((Agrees.refl All w1).alloc _).trans hag2
  have HA2 := Lib.hid hA2
  clear hag2 hA2
  simp only [Ptr.zero, Ptr.cells]
  go_wp2_with (refine wpList_val rfl (ex_build1 rfl) ?_)
  refine (of_calls 1 4 5 1 page1 (by decide) _).mono ?_
  rintro e w3 ⟨rfl, hag3⟩
  have hxe : (ptrOf 1 4 5 1 page1).cells = #[.int .u8 1, .int .u16 4, .int .u16 5, .int .u32 1, U (sum page1)] := by
    have := xw_cells; unfold xw at this; rw [this]; rfl
  rw [hxe]
  generalize hs1 : sum page1 = s1
  have HS1 := Lib.hid hs1
  have HA3 := Lib.hid (show Agrees All w w3 from HA1.out.trans (HA2.out.trans (((Agrees.refl All w2).alloc _).trans hag3)))
  have HB3 := Lib.hid (HB1.out.agrees (HA2.out.trans ((((Agrees.refl All w2).alloc _).trans hag3).alloc (.cells #[.int .u8 1, .int .u16 4, .int .u16 5, .int .u32 1, U s1] 27))) fun _ h => h)
  clear hxe hs1 hag3 HA2
  go_wp2_with fail
  obtain ⟨W4, hW4⟩ : ∃ W4, w3.alloc (.cells #[.int .u8 1, .int .u16 4, .int .u16 5, .int .u32 1, U s1] 27) = W4 := ⟨_, rfl⟩
  have hr4 : W4.heap[w3.heap.size]? = some (.cells (Ptr.mk 1 4 5 1 s1).cells 27 (0, 0)) := by rw [← hW4]; exact World.alloc_heap_new w3 _
  have hA4 : Agrees All w W4 := by rw [← hW4]; exact HA3.out.alloc _
  rw [hW4] at HB3 ⊢
  have hat := HB3.out.at.2.2
  have HAT := Lib.hid hat
  have HR4 := Lib.hid hr4
  have HA4 := Lib.hid hA4
  clear hat hr4 hA4 hW4 HA3 HA1 HB1
  go_loop [6] (fun v => ∃ i : Nat, i ≤ 17 ∧ v = .int .i64 i) (fun v => 17 - (intOf v).toNat)
  case atStart => exact ⟨0, by omega, rfl⟩
  case round =>
    obtain ⟨i, hi, rfl⟩ := hrel
    by_cases hlt : i < 17
    · obtain ⟨b, off, rfl, _, _, hc⟩ := HAT.out i hlt
      have hz : (List.replicate 17 0#8).getD i 0 = 0#8 := by rw [List.getD_eq_getElem?_getD, List.getElem?_replicate, if_pos hlt]; rfl
      rw [hz] at hc
      have hn0 : ∀ t, binOp .neq t (B 0#8) (.int .u8 0) = pure (.bool false) := fun t => binOp_neq_B t 0#8 0#8
      go_wp2
      go_round
      case rel => exact ⟨i + 1, by omega, by go_num⟩
      case measure => simp [intOf]; omega
    · obtain rfl : i = 17 := by omega
      have hok : (Ptr.mk 1 4 5 1 s1).ok := by simp [Ptr.ok]
      have HF1 : RowKit.Hid ((Ptr.mk 1 4 5 1 s1).fits page1 = true) := by
        show (((1 : Int) != 0) && (s1 == sum page1)) = true
        rw [HS1.out]; simp
      have HF2 : RowKit.Hid ((Ptr.mk 1 4 5 1 s1).fits page2 = false) := by
        show (((1 : Int) != 0) && (s1 == sum page2)) = false
        rw [← HS1.out, page_ne]; simp
      clear hlt hi
      go_wp2_with fail
      refine (none_calls Ptr.zero Ptr.zero_ok _).mono ?_
      rintro e W5 ⟨rfl, hg⟩
      have HR5 := Lib.hid ((hg.block _ (Array.getElem?_eq_some_iff.1 HR4.out).1 trivial).trans HR4.out)
      have HA5 := Lib.hid (HA4.out.trans hg)
      rw [show Ptr.zero.none = true from rfl]
      clear hg HR4 HA4
      go_wp2_with (first | (refine wpList_val rfl (ex_load (ty := 27) rfl isAgg_ptr w3.heap.size 0 rfl (Ptr.mk 1 4 5 1 s1).cells rfl (Ptr.load _ HR5.out)) ?_) | (refine wpList_val rfl (ex_build1 rfl) ?_) | (refine wpList_val rfl (ex_build2 rfl) ?_))
      refine (none_calls (Ptr.mk 1 4 5 1 s1) hok _).mono ?_
      rintro e W6 ⟨rfl, hg⟩
      have HR6 := Lib.hid ((hg.block _ (Array.getElem?_eq_some_iff.1 HR5.out).1 trivial).trans HR5.out)
      have HA6 := Lib.hid (HA5.out.trans hg)
      rw [show (Ptr.mk 1 4 5 1 s1).none = false from rfl]
      clear hg HR5 HA5
      go_wp2_with (first | (refine wpList_val rfl (ex_load (ty := 27) rfl isAgg_ptr w3.heap.size 0 rfl (Ptr.mk 1 4 5 1 s1).cells rfl (Ptr.load _ HR6.out)) ?_) | (refine wpList_val rfl (ex_build1 rfl) ?_) | (refine wpList_val rfl (ex_build2 rfl) ?_))
      refine (meta_calls (Ptr.mk 1 4 5 1 s1) _).mono ?_
      rintro e W7 ⟨rfl, hg⟩
      have HR7 := Lib.hid ((hg.block _ (Array.getElem?_eq_some_iff.1 HR6.out).1 trivial).trans HR6.out)
      have HA7 := Lib.hid (HA6.out.trans hg)
      rw [show (Ptr.mk 1 4 5 1 s1).meta = true from rfl]
      clear hg HR6 HA6
      go_wp2_with (first | (refine wpList_val rfl (ex_load (ty := 27) rfl isAgg_ptr w3.heap.size 0 rfl (Ptr.mk 1 4 5 1 s1).cells rfl (Ptr.load _ HR7.out)) ?_) | (refine wpList_val rfl (ex_build1 rfl) ?_) | (refine wpList_val rfl (ex_build2 rfl) ?_))
      refine (right_calls (Ptr.mk 1 4 5 1 s1) hok 32 _).mono ?_
      rintro e W8 ⟨rfl, hg⟩
      have HR8 := Lib.hid ((hg.block _ (Array.getElem?_eq_some_iff.1 HR7.out).1 trivial).trans HR7.out)
      have HA8 := Lib.hid (HA7.out.trans hg)
      rw [show (Ptr.mk 1 4 5 1 s1).right 32 = true from rfl]
      clear hg HR7 HA7
      go_wp2_with (first | (refine wpList_val rfl (ex_load (ty := 27) rfl isAgg_ptr w3.heap.size 0 rfl (Ptr.mk 1 4 5 1 s1).cells rfl (Ptr.load _ HR8.out)) ?_) | (refine wpList_val rfl (ex_build1 rfl) ?_) | (refine wpList_val rfl (ex_build2 rfl) ?_))
      refine (right_calls (Ptr.mk 1 4 5 1 s1) hok 5 _).mono ?_
      rintro e W9 ⟨rfl, hg⟩
      have HR9 := Lib.hid ((hg.block _ (Array.getElem?_eq_some_iff.1 HR8.out).1 trivial).trans HR8.out)
      have HA9 := Lib.hid (HA8.out.trans hg)
      rw [show (Ptr.mk 1 4 5 1 s1).right 5 = false from rfl]
      clear hg HR8 HA8
      go_wp2_with (first | (refine wpList_val rfl (ex_load (ty := 27) rfl isAgg_ptr w3.heap.size 0 rfl (Ptr.mk 1 4 5 1 s1).cells rfl (Ptr.load _ HR9.out)) ?_) | (refine wpList_val rfl (ex_build1 rfl) ?_) | (refine wpList_val rfl (ex_build2 rfl) ?_))
      refine (fits_calls (Ptr.mk 1 4 5 1 s1) page1 (by decide) _).mono ?_
      rintro e W10 ⟨rfl, hg⟩
      have HR10 := Lib.hid ((hg.block _ (Array.getElem?_eq_some_iff.1 HR9.out).1 trivial).trans HR9.out)
      have HA10 := Lib.hid (HA9.out.trans hg)
      rw [HF1.out]
      clear hg HR9 HA9
      go_wp2_with (first | (refine wpList_val rfl (ex_load (ty := 27) rfl isAgg_ptr w3.heap.size 0 rfl (Ptr.mk 1 4 5 1 s1).cells rfl (Ptr.load _ HR10.out)) ?_) | (refine wpList_val rfl (ex_build1 rfl) ?_) | (refine wpList_val rfl (ex_build2 rfl) ?_))
      refine (fits_calls (Ptr.mk 1 4 5 1 s1) page2 (by decide) _).mono ?_
      rintro e W11 ⟨rfl, hg⟩
      have HR11 := Lib.hid ((hg.block _ (Array.getElem?_eq_some_iff.1 HR10.out).1 trivial).trans HR10.out)
      have HA11 := Lib.hid (HA10.out.trans hg)
      rw [HF2.out]
      clear hg HR10 HA10
      go_wp2_with (first | (refine wpList_val rfl (ex_load (ty := 27) rfl isAgg_ptr w3.heap.size 0 rfl (Ptr.mk 1 4 5 1 s1).cells rfl (Ptr.load _ HR11.out)) ?_) | (refine wpList_val rfl (ex_build1 rfl) ?_) | (refine wpList_val rfl (ex_build2 rfl) ?_))
      refine (where_calls (Ptr.mk 1 4 5 1 s1) hok _).mono ?_
      rintro e W12 ⟨v, rfl, hown, hg⟩
      have hbl := hown.1
      have HA12 := Lib.hid (HA11.out.trans hg)
      obtain ⟨va, vn, vc, rfl, hvn⟩ : ∃ a n c, v = .slice a n c ∧ n = 2 := by
        rcases hown.2 with ⟨rfl, h0⟩ | ⟨g, cap, cur, rfl, _⟩
        · exact ⟨_, _, _, rfl, by simp [Ptr.addrs, Ptr.meta] at h0⟩
        · exact ⟨_, _, _, rfl, rfl⟩
      subst hvn
      clear hown hg hbl
      go_wp2_with fail
      go_ret
      exact ⟨rfl, HA12.out⟩
end Suture
