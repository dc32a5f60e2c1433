/-
  suturelaw01.CrcTells: steps, the table, sums of parts and of pages, as the document answers.
  Conditions: none.
-/
import Derived.Test.YtmkbchhmeaefeaaCrc10
namespace Suture
open Go Go.RowKit Go.Proofs

theorem PartsAt.bound {R : Nat → Prop} {w : World} {v : Value} {xs : List (List (BitVec 8))} (h : PartsAt R w v xs) : PartsAt (fun b => b < w.heap.size) w v xs := by
  obtain ⟨vs, h1, h2, h3⟩ := h
  exact ⟨vs, h1.bound, h2, fun i x p hx hp => (h3 i x p hx hp).bound⟩
theorem keyable_tab : Keyable Try.prog 2 66 := ⟨by decide, by kernel_rfl, by kernel_rfl, by kernel_rfl⟩
theorem keyed_tab : Keyed Try.prog 2 66 (tabCells 256) :=
  keyed_ints Try.underlying66 Try.underlying24 (by kernel_rfl) (by kernel_rfl) (tabCells 256) (tabCells_size _) fun i hi => by
    rw [tabCells_get 256 i hi, if_pos hi]
    obtain ⟨z, hz, hw⟩ := wf_u64 (tabAt i)
    exact ⟨z, by rw [hz], hw⟩

def vTells (c : BitVec 64) (b : BitVec 8) (a : Option Addr) (n cap : Nat) (parts : List (List (BitVec 8))) (p : List (BitVec 8)) : Nat → Value → Prop
  | 0, val => val = U c
  | 1, val => val = B b
  | 2, val => val = U (step c b)
  | 3, val => val = U c
  | 4, val => val = B b
  | 5, val => val = U (step c b)
  | 6, val => val = .bool true
  | 7, val => val = .bool true
  | 8, val => val = .agg (tabCells 256)
  | 9, val => val = .agg (tabCells 256)
  | 10, val => val = .bool true
  | 11, val => val = .bool true
  | 12, val => val = .bool true
  | 13, val => val = .slice a n cap
  | 14, val => val = U (sum parts.flatten)
  | 15, val => val = .slice a n cap
  | 16, val => val = U (sum parts.flatten)
  | 17, val => val = .bool true
  | 18, val => val = .bool true
  | 19, val => val = .bool true
  | 20, val => val = .agg (pageCells p)
  | 21, val => val = U (sum p)
  | 22, val => val = .agg (pageCells p)
  | 23, val => val = U (sum p)
  | 24, val => val = .bool true
  | 25, val => val = .bool true
  | 26, val => val = .bool true
  | 27, val => val = .bool true
  | 28, val => val = .bool true
  | 29, val => val = .bool true
  | _, _ => True

set_option maxHeartbeats 4000000 in
set_option maxRecDepth 100000 in
theorem crcTells_calls (c : BitVec 64) (b : BitVec 8) (a : Option Addr) (n cap : Nat) (parts : List (List (BitVec 8))) (p : List (BitVec 8)) (w : World) (hv : PartsAt All w (.slice a n cap) parts) (hl : p.length = 256) :
    Calls Try.prog 9 #[U c, B b, .slice a n cap, .agg (pageCells p)] w fun e w' => e = .returned (.bool true) ∧ Agrees All w w' := by
  have hA0 : Agrees All w (w.alloc (.cells (pageCells p) 32)) := (Agrees.refl _ w).alloc _
  have hv0 := hv.agrees hA0 fun _ h => h
  have hp0 := World.alloc_heap_new w (.cells (pageCells p) 32)
  have HV := Lib.hid hv0
  have HP := Lib.hid hp0
  have HA := Lib.hid hA0
  clear hv hv0 hp0 hA0
  go_enter Try.func9, Try.ntmps9
  go_wp2_with (go_at_call 28; refine (great_calls a n cap parts _ HV.out.bound).mono ?_; rintro e w1 ⟨⟨g, rfl⟩, rfl⟩)
  · refine (wakes01_calls _).mono ?_
    rintro e w2 ⟨rfl, hag2⟩
    go_wp2_with fail
    go_ret
    exact ⟨rfl, HA.out.trans hag2⟩
  · obtain ⟨W0, hW0⟩ : ∃ W0, (w.alloc (.cells (pageCells p) 32)).drew = W0 := ⟨_, rfl⟩
    have hv : PartsAt All W0 (.slice a n cap) parts := by rw [← hW0]; exact HV.out.agrees (Agrees.refl All _).drew fun _ h => h
    have hpg : W0.heap[w.heap.size]? = some (.cells (pageCells p) 32 (0, 0)) := by rw [← hW0]; exact HP.out
    have hpl : w.heap.size < W0.heap.size := (Array.getElem?_eq_some_iff.1 hpg).1
    have HA1 : RowKit.Hid (Agrees All w W0) := by rw [← hW0]; exact HA.out.drew
    refine wp_region_plan (by kernel_rfl) ?hok (by kernel_rfl) (vTells c b a n cap parts p) (fun _ _ W => Agrees All W0 W) ?h0 (fun i hi => ?steps) ?hend
    case hok => kernel_rfl
    case h0 => exact fun vals => by rw [← hW0]; exact Agrees.refl _ _
    case steps =>
      generalize hpb : w.heap.size = pb at *
      have hi' : i < 30 := hi
      match i, hi' with
      | 0, _ =>
        refine steps_of rfl ?_
        intro L aq wq hL hd st wi
        have o0 := st.outside (t := 0) rfl (v := U c) rfl
        exact opTo_val (v := U c) rfl (ex_move (.inl rfl) (eval_tmp o0)) ⟨(fun h => by cases h), rfl, wi⟩
      | 1, _ =>
        refine steps_of rfl ?_
        intro L aq wq hL hd st wi
        have o1 := st.outside (t := 1) rfl (v := B b) rfl
        exact opTo_val (v := B b) rfl (ex_move (.inl rfl) (eval_tmp o1)) ⟨(fun h => by cases h), rfl, wi⟩
      | 2, _ =>
        refine steps_of rfl ?_
        intro L aq wq hL hd st wi
        obtain ⟨u0, e0, V0⟩ := st.val 0 _ _ rfl rfl (hd ⟨0, .data⟩ (by simp) rfl)
        obtain rfl : U c = u0 := V0.symm
        obtain ⟨u1, e1, V1⟩ := st.val 1 _ _ rfl rfl (hd ⟨1, .data⟩ (by simp) rfl)
        obtain rfl : B b = u1 := V1.symm
        refine opTo_call (w' := wq) (f := 14) (args := #[U c, B b]) rfl (by simp [go_sem, Act.eval, e0, e1]) ((step_calls c b wq).mono ?_)
        rintro e w' ⟨rfl, rfl⟩
        exact ⟨_, rfl, (fun h => by cases h), rfl, wi⟩
      | 3, _ =>
        refine steps_of rfl ?_
        intro L aq wq hL hd st wi
        have o0 := st.outside (t := 0) rfl (v := U c) rfl
        exact opTo_val (v := U c) rfl (ex_move (.inl rfl) (eval_tmp o0)) ⟨(fun h => by cases h), rfl, wi⟩
      | 4, _ =>
        refine steps_of rfl ?_
        intro L aq wq hL hd st wi
        have o1 := st.outside (t := 1) rfl (v := B b) rfl
        exact opTo_val (v := B b) rfl (ex_move (.inl rfl) (eval_tmp o1)) ⟨(fun h => by cases h), rfl, wi⟩
      | 5, _ =>
        refine steps_of rfl ?_
        intro L aq wq hL hd st wi
        obtain ⟨u3, e3, V3⟩ := st.val 3 _ _ rfl rfl (hd ⟨3, .data⟩ (by simp) rfl)
        obtain rfl : U c = u3 := V3.symm
        obtain ⟨u4, e4, V4⟩ := st.val 4 _ _ rfl rfl (hd ⟨4, .data⟩ (by simp) rfl)
        obtain rfl : B b = u4 := V4.symm
        refine opTo_call (w' := wq) (f := 29) (args := #[U c, B b]) rfl (by simp [go_sem, Act.eval, e3, e4]) ((refStep_calls c b wq).mono ?_)
        rintro e w' ⟨rfl, rfl⟩
        exact ⟨_, rfl, (fun h => by cases h), rfl, wi⟩
      | 6, _ =>
        refine steps_of rfl ?_
        intro L aq wq hL hd st wi
        obtain ⟨u2, e2, V2⟩ := st.val 2 _ _ rfl rfl (hd ⟨2, .data⟩ (by simp) rfl)
        obtain rfl : U (step c b) = u2 := V2.symm
        obtain ⟨u5, e5, V5⟩ := st.val 5 _ _ rfl rfl (hd ⟨5, .data⟩ (by simp) rfl)
        obtain rfl : U (step c b) = u5 := V5.symm
        exact opTo_val (v := .bool true) rfl (by simp [go_sem, Act.eval, e2, e5]) ⟨(fun h => by cases h), rfl, wi⟩
      | 7, _ =>
        refine steps_of rfl ?_
        intro L aq wq hL hd st wi
        obtain ⟨u6, e6, V6⟩ := st.val 6 _ _ rfl rfl (hd ⟨6, .data⟩ (by simp) rfl)
        obtain rfl : .bool true = u6 := V6.symm
        exact opTo_val (v := .bool true) rfl (ex_move (.inl rfl) (eval_tmp e6)) ⟨(fun h => by cases h), rfl, wi⟩
      | 8, _ =>
        refine steps_of rfl ?_
        intro L aq wq hL hd st wi
        obtain ⟨u7, e7, V7⟩ := st.val 7 _ _ rfl rfl (hd ⟨7, .chain⟩ (by simp) rfl)
        obtain rfl : .bool true = u7 := V7.symm
        refine opTo_call (w' := wq) (f := 27) (args := #[]) (by simp [Region.wanted, yielded, e7]) (by simp [go_sem, Act.eval]) ((table_calls wq).mono ?_)
        rintro e w' ⟨rfl, hag⟩
        exact ⟨_, rfl, (fun h => by cases h), rfl, wi.trans hag⟩
      | 9, _ =>
        refine steps_of rfl ?_
        intro L aq wq hL hd st wi
        obtain ⟨u7, e7, V7⟩ := st.val 7 _ _ rfl rfl (hd ⟨7, .guard⟩ (by simp) rfl)
        obtain rfl : .bool true = u7 := V7.symm
        refine opTo_call (w' := wq) (f := 30) (args := #[]) (by simp [Region.wanted, yielded, e7]) (by simp [go_sem, Act.eval]) ((refTable_calls wq).mono ?_)
        rintro e w' ⟨rfl, hag⟩
        exact ⟨_, rfl, (fun h => by cases h), rfl, wi.trans hag⟩
      | 10, _ =>
        refine steps_of rfl ?_
        intro L aq wq hL hd st wi
        obtain ⟨u8, e8, V8⟩ := st.val 8 _ _ rfl rfl (hd ⟨8, .data⟩ (by simp) rfl)
        obtain rfl : .agg (tabCells 256) = u8 := V8.symm
        obtain ⟨u9, e9, V9⟩ := st.val 9 _ _ rfl rfl (hd ⟨9, .data⟩ (by simp) rfl)
        obtain rfl : .agg (tabCells 256) = u9 := V9.symm
        obtain ⟨u7, e7, V7⟩ := st.val 7 _ _ rfl rfl (hd ⟨7, .guard⟩ (by simp) rfl)
        obtain rfl : .bool true = u7 := V7.symm
        refine opTo_eql keyable_tab keyed_tab keyed_tab (by simp [Region.wanted, yielded, e7]) rfl (eval_tmp e8) (eval_tmp e9) fun r hiff => ?_
        obtain rfl := hiff.2 rfl
        exact ⟨(fun h => by cases h), rfl, wi⟩
      | 11, _ =>
        refine steps_of rfl ?_
        intro L aq wq hL hd st wi
        obtain ⟨u7, e7, V7⟩ := st.val 7 _ _ rfl rfl (hd ⟨7, .data⟩ (by simp) rfl)
        obtain rfl : .bool true = u7 := V7.symm
        obtain ⟨u10, e10, V10⟩ := st.val 10 _ _ rfl rfl (hd ⟨10, .data⟩ (by simp) rfl)
        obtain rfl : .bool true = u10 := V10.symm
        exact opTo_val (v := .bool true) rfl (by simp [go_sem, Act.eval, e7, e10]) ⟨(fun h => by cases h), rfl, wi⟩
      | 12, _ =>
        refine steps_of rfl ?_
        intro L aq wq hL hd st wi
        obtain ⟨u11, e11, V11⟩ := st.val 11 _ _ rfl rfl (hd ⟨11, .data⟩ (by simp) rfl)
        obtain rfl : .bool true = u11 := V11.symm
        exact opTo_val (v := .bool true) rfl (ex_move (.inl rfl) (eval_tmp e11)) ⟨(fun h => by cases h), rfl, wi⟩
      | 13, _ =>
        refine steps_of rfl ?_
        intro L aq wq hL hd st wi
        have o2 := st.outside (t := 2) rfl (v := .slice a n cap) rfl
        obtain ⟨u12, e12, V12⟩ := st.val 12 _ _ rfl rfl (hd ⟨12, .guard⟩ (by simp) rfl)
        obtain rfl : .bool true = u12 := V12.symm
        exact opTo_val (v := .slice a n cap) (by simp [Region.wanted, yielded, e12]) (ex_move (.inl rfl) (eval_tmp o2)) ⟨(fun h => by cases h), rfl, wi⟩
      | 14, _ =>
        refine steps_of rfl ?_
        intro L aq wq hL hd st wi
        obtain ⟨u13, e13, V13⟩ := st.val 13 _ _ rfl rfl (hd ⟨13, .data⟩ (by simp) rfl)
        obtain rfl : .slice a n cap = u13 := V13.symm
        obtain ⟨u12, e12, V12⟩ := st.val 12 _ _ rfl rfl (hd ⟨12, .chain⟩ (by simp) rfl)
        obtain rfl : .bool true = u12 := V12.symm
        refine opTo_call (w' := wq) (f := 13) (args := #[.slice a n cap]) (by simp [Region.wanted, yielded, e12]) (by simp [go_sem, Act.eval, e13]) ((sum_calls a n cap parts wq ((hv.agrees wi fun _ h => h).bound)).mono ?_)
        rintro e w' ⟨rfl, hag⟩
        exact ⟨_, rfl, (fun h => by cases h), rfl, wi.trans hag⟩
      | 15, _ =>
        refine steps_of rfl ?_
        intro L aq wq hL hd st wi
        have o2 := st.outside (t := 2) rfl (v := .slice a n cap) rfl
        obtain ⟨u12, e12, V12⟩ := st.val 12 _ _ rfl rfl (hd ⟨12, .guard⟩ (by simp) rfl)
        obtain rfl : .bool true = u12 := V12.symm
        exact opTo_val (v := .slice a n cap) (by simp [Region.wanted, yielded, e12]) (ex_move (.inl rfl) (eval_tmp o2)) ⟨(fun h => by cases h), rfl, wi⟩
      | 16, _ =>
        refine steps_of rfl ?_
        intro L aq wq hL hd st wi
        obtain ⟨u15, e15, V15⟩ := st.val 15 _ _ rfl rfl (hd ⟨15, .data⟩ (by simp) rfl)
        obtain rfl : .slice a n cap = u15 := V15.symm
        obtain ⟨u12, e12, V12⟩ := st.val 12 _ _ rfl rfl (hd ⟨12, .guard⟩ (by simp) rfl)
        obtain rfl : .bool true = u12 := V12.symm
        refine opTo_call (w' := wq) (f := 31) (args := #[.slice a n cap]) (by simp [Region.wanted, yielded, e12]) (by simp [go_sem, Act.eval, e15]) ((refSum_calls a n cap parts wq ((hv.agrees wi fun _ h => h).bound)).mono ?_)
        rintro e w' ⟨rfl, rfl⟩
        exact ⟨_, rfl, (fun h => by cases h), rfl, wi⟩
      | 17, _ =>
        refine steps_of rfl ?_
        intro L aq wq hL hd st wi
        obtain ⟨u14, e14, V14⟩ := st.val 14 _ _ rfl rfl (hd ⟨14, .data⟩ (by simp) rfl)
        obtain rfl : U (sum parts.flatten) = u14 := V14.symm
        obtain ⟨u16, e16, V16⟩ := st.val 16 _ _ rfl rfl (hd ⟨16, .data⟩ (by simp) rfl)
        obtain rfl : U (sum parts.flatten) = u16 := V16.symm
        obtain ⟨u12, e12, V12⟩ := st.val 12 _ _ rfl rfl (hd ⟨12, .guard⟩ (by simp) rfl)
        obtain rfl : .bool true = u12 := V12.symm
        exact opTo_val (v := .bool true) (by simp [Region.wanted, yielded, e12]) (by simp [go_sem, Act.eval, e14, e16]) ⟨(fun h => by cases h), rfl, wi⟩
      | 18, _ =>
        refine steps_of rfl ?_
        intro L aq wq hL hd st wi
        obtain ⟨u12, e12, V12⟩ := st.val 12 _ _ rfl rfl (hd ⟨12, .data⟩ (by simp) rfl)
        obtain rfl : .bool true = u12 := V12.symm
        obtain ⟨u17, e17, V17⟩ := st.val 17 _ _ rfl rfl (hd ⟨17, .data⟩ (by simp) rfl)
        obtain rfl : .bool true = u17 := V17.symm
        exact opTo_val (v := .bool true) rfl (by simp [go_sem, Act.eval, e12, e17]) ⟨(fun h => by cases h), rfl, wi⟩
      | 19, _ =>
        refine steps_of rfl ?_
        intro L aq wq hL hd st wi
        obtain ⟨u18, e18, V18⟩ := st.val 18 _ _ rfl rfl (hd ⟨18, .data⟩ (by simp) rfl)
        obtain rfl : .bool true = u18 := V18.symm
        exact opTo_val (v := .bool true) rfl (ex_move (.inl rfl) (eval_tmp e18)) ⟨(fun h => by cases h), rfl, wi⟩
      | 20, _ =>
        refine steps_of rfl ?_
        intro L aq wq hL hd st wi
        have o7 := st.outside (t := 7) rfl (v := .pointer (some ⟨pb, 0, none⟩)) rfl
        obtain ⟨u19, e19, V19⟩ := st.val 19 _ _ rfl rfl (hd ⟨19, .guard⟩ (by simp) rfl)
        obtain rfl : .bool true = u19 := V19.symm
        exact opTo_val (v := .agg (pageCells p)) (by simp [Region.wanted, yielded, e19]) (ex_load rfl isAgg_page pb 0 (eval_tmp o7) (pageCells p) (by rw [pageCells_size]; exact hl) (fun j _ => by rw [Nat.zero_add]; exact cell_of_row wq _ _ _ _ _ ((wi.block pb hpl trivial).trans hpg))) ⟨(fun h => by cases h), rfl, wi⟩
      | 21, _ =>
        refine steps_of rfl ?_
        intro L aq wq hL hd st wi
        obtain ⟨u20, e20, V20⟩ := st.val 20 _ _ rfl rfl (hd ⟨20, .data⟩ (by simp) rfl)
        obtain rfl : .agg (pageCells p) = u20 := V20.symm
        obtain ⟨u19, e19, V19⟩ := st.val 19 _ _ rfl rfl (hd ⟨19, .chain⟩ (by simp) rfl)
        obtain rfl : .bool true = u19 := V19.symm
        refine opTo_call (w' := wq) (f := 32) (args := #[.agg (pageCells p)]) (by simp [Region.wanted, yielded, e19]) (by simp [go_sem, Act.eval, e20]) ((crcPage_calls p hl wq).mono ?_)
        rintro e w' ⟨rfl, hag⟩
        exact ⟨_, rfl, (fun h => by cases h), rfl, wi.trans hag⟩
      | 22, _ =>
        refine steps_of rfl ?_
        intro L aq wq hL hd st wi
        have o7 := st.outside (t := 7) rfl (v := .pointer (some ⟨pb, 0, none⟩)) rfl
        obtain ⟨u19, e19, V19⟩ := st.val 19 _ _ rfl rfl (hd ⟨19, .guard⟩ (by simp) rfl)
        obtain rfl : .bool true = u19 := V19.symm
        exact opTo_val (v := .agg (pageCells p)) (by simp [Region.wanted, yielded, e19]) (ex_load rfl isAgg_page pb 0 (eval_tmp o7) (pageCells p) (by rw [pageCells_size]; exact hl) (fun j _ => by rw [Nat.zero_add]; exact cell_of_row wq _ _ _ _ _ ((wi.block pb hpl trivial).trans hpg))) ⟨(fun h => by cases h), rfl, wi⟩
      | 23, _ =>
        refine steps_of rfl ?_
        intro L aq wq hL hd st wi
        obtain ⟨u22, e22, V22⟩ := st.val 22 _ _ rfl rfl (hd ⟨22, .data⟩ (by simp) rfl)
        obtain rfl : .agg (pageCells p) = u22 := V22.symm
        obtain ⟨u19, e19, V19⟩ := st.val 19 _ _ rfl rfl (hd ⟨19, .guard⟩ (by simp) rfl)
        obtain rfl : .bool true = u19 := V19.symm
        refine opTo_call (w' := wq) (f := 33) (args := #[.agg (pageCells p)]) (by simp [Region.wanted, yielded, e19]) (by simp [go_sem, Act.eval, e22]) ((refPage_calls p hl wq).mono ?_)
        rintro e w' ⟨rfl, hag⟩
        exact ⟨_, rfl, (fun h => by cases h), rfl, wi.trans hag⟩
      | 24, _ =>
        refine steps_of rfl ?_
        intro L aq wq hL hd st wi
        obtain ⟨u21, e21, V21⟩ := st.val 21 _ _ rfl rfl (hd ⟨21, .data⟩ (by simp) rfl)
        obtain rfl : U (sum p) = u21 := V21.symm
        obtain ⟨u23, e23, V23⟩ := st.val 23 _ _ rfl rfl (hd ⟨23, .data⟩ (by simp) rfl)
        obtain rfl : U (sum p) = u23 := V23.symm
        obtain ⟨u19, e19, V19⟩ := st.val 19 _ _ rfl rfl (hd ⟨19, .guard⟩ (by simp) rfl)
        obtain rfl : .bool true = u19 := V19.symm
        exact opTo_val (v := .bool true) (by simp [Region.wanted, yielded, e19]) (by simp [go_sem, Act.eval, e21, e23]) ⟨(fun h => by cases h), rfl, wi⟩
      | 25, _ =>
        refine steps_of rfl ?_
        intro L aq wq hL hd st wi
        obtain ⟨u19, e19, V19⟩ := st.val 19 _ _ rfl rfl (hd ⟨19, .data⟩ (by simp) rfl)
        obtain rfl : .bool true = u19 := V19.symm
        obtain ⟨u24, e24, V24⟩ := st.val 24 _ _ rfl rfl (hd ⟨24, .data⟩ (by simp) rfl)
        obtain rfl : .bool true = u24 := V24.symm
        exact opTo_val (v := .bool true) rfl (by simp [go_sem, Act.eval, e19, e24]) ⟨(fun h => by cases h), rfl, wi⟩
      | 26, _ =>
        refine steps_of rfl ?_
        intro L aq wq hL hd st wi
        obtain ⟨u25, e25, V25⟩ := st.val 25 _ _ rfl rfl (hd ⟨25, .data⟩ (by simp) rfl)
        obtain rfl : .bool true = u25 := V25.symm
        exact opTo_val (v := .bool true) rfl (ex_move (.inl rfl) (eval_tmp e25)) ⟨(fun h => by cases h), rfl, wi⟩
      | 27, _ =>
        refine steps_of rfl ?_
        intro L aq wq hL hd st wi
        obtain ⟨u26, e26, V26⟩ := st.val 26 _ _ rfl rfl (hd ⟨26, .chain⟩ (by simp) rfl)
        obtain rfl : .bool true = u26 := V26.symm
        refine opTo_call (w' := wq) (f := 12) (args := #[]) (by simp [Region.wanted, yielded, e26]) (by simp [go_sem, Act.eval]) ((wakes01_calls wq).mono ?_)
        rintro e w' ⟨rfl, hag⟩
        exact ⟨_, rfl, (fun h => by cases h), rfl, wi.trans hag⟩
      | 28, _ =>
        refine steps_of rfl ?_
        intro L aq wq hL hd st wi
        obtain ⟨u26, e26, V26⟩ := st.val 26 _ _ rfl rfl (hd ⟨26, .data⟩ (by simp) rfl)
        obtain rfl : .bool true = u26 := V26.symm
        obtain ⟨u27, e27, V27⟩ := st.val 27 _ _ rfl rfl (hd ⟨27, .data⟩ (by simp) rfl)
        obtain rfl : .bool true = u27 := V27.symm
        exact opTo_val (v := .bool true) rfl (by simp [go_sem, Act.eval, e26, e27]) ⟨(fun h => by cases h), rfl, wi⟩
      | 29, _ =>
        refine steps_of rfl ?_
        intro L aq wq hL hd st wi
        obtain ⟨u28, e28, V28⟩ := st.val 28 _ _ rfl rfl (hd ⟨28, .data⟩ (by simp) rfl)
        obtain rfl : .bool true = u28 := V28.symm
        exact opTo_val (v := .bool true) rfl (ex_move (.inr rfl) (eval_tmp e28)) ⟨(fun h => by cases h), rfl, wi⟩
      | (i + 30), h => omega
    case hend =>
      intro vals w' hV hW
      have HF := Lib.hid (HA1.out.trans hW)
      have x29 : vals 29 = .bool true := hV 29 _ _ rfl rfl
      simp only [putAll, Act.put, List.setIfInBounds_toArray, List.set_cons_succ, List.set_cons_zero, x29]
      clear hV hW
      go_wp2_with fail
      go_ret
      exact ⟨rfl, HF.out⟩
end Suture
