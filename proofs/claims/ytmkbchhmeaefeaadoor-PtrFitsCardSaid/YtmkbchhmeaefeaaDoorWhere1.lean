/-
  suturelaw05.PtrWhere: a pointer has two addresses just if it is of metadata, one if it is a chain's, else none.
  Conditions: the widths are where they were laid.
-/
import Derived.Test.YtmkbchhmeaefeaaDoorWakes05
namespace Suture
open Go Go.RowKit Go.Proofs

theorem oneInt : IsOne Tryd.prog 3 := ⟨⟨_, Tryd.underlying3, rfl⟩, by kernel_rfl⟩
theorem oneU16 : IsOne Tryd.prog 22 := ⟨⟨_, Tryd.underlying22, rfl⟩, by kernel_rfl⟩

def vWhere2 (pb g c : Nat) (a0 a1 : Int) (X : Ptr) : Nat → Value → Prop
  | 0, val => val = .slice (some ⟨g, 0, none⟩) 2 c
  | 1, val => val = .int .i64 2
  | 2, val => val = .bool true
  | 3, val => val = .bool true
  | 4, val => val = .slice (some ⟨g, 0, none⟩) 2 c
  | 5, val => val = .pointer (some ⟨g, 0 + 0 * 1, none⟩)
  | 6, val => val = .int .i64 a0
  | 7, val => val = .pointer (some ⟨pb, 1, none⟩)
  | 8, val => val = .pointer (some ⟨pb, 1 + 0 * 1, none⟩)
  | 9, val => val = .int .u16 a0
  | 10, val => val = .int .i64 a0
  | 11, val => val = .bool true
  | 12, val => val = .bool true
  | 13, val => val = .bool true
  | 14, val => val = .slice (some ⟨g, 0, none⟩) 2 c
  | 15, val => val = .pointer (some ⟨g, 0 + 1 * 1, none⟩)
  | 16, val => val = .int .i64 a1
  | 17, val => val = .pointer (some ⟨pb, 1, none⟩)
  | 18, val => val = .pointer (some ⟨pb, 1 + 1 * 1, none⟩)
  | 19, val => val = .int .u16 a1
  | 20, val => val = .int .i64 a1
  | 21, val => val = .bool true
  | 22, val => val = .bool true
  | 23, val => val = .bool true
  | 24, val => val = .agg X.cells
  | 25, val => val = .bool true
  | 26, val => val = .bool true
  | 27, val => val = .bool true
  | 28, val => val = .agg X.cells
  | 29, val => val = .bool false
  | 30, val => val = .bool true
  | 31, val => val = .bool true
  | 32, val => val = .bool true
  | 33, val => val = .bool true
  | 34, val => val = .bool true
  | 35, val => val = .bool true
  | _, _ => True

def vWhere1 (pb g c : Nat) (a0 : Int) (X : Ptr) : Nat → Value → Prop
  | 0, val => val = .slice (some ⟨g, 0, none⟩) 1 c
  | 1, val => val = .int .i64 1
  | 2, val => val = .bool true
  | 3, val => val = .bool true
  | 4, val => val = .slice (some ⟨g, 0, none⟩) 1 c
  | 5, val => val = .pointer (some ⟨g, 0 + 0 * 1, none⟩)
  | 6, val => val = .int .i64 a0
  | 7, val => val = .pointer (some ⟨pb, 1, none⟩)
  | 8, val => val = .pointer (some ⟨pb, 1 + 0 * 1, none⟩)
  | 9, val => val = .int .u16 a0
  | 10, val => val = .int .i64 a0
  | 11, val => val = .bool true
  | 12, val => val = .bool true
  | 13, val => val = .bool true
  | 14, val => val = .agg X.cells
  | 15, val => val = .bool false
  | 16, val => val = .bool true
  | 17, val => val = .bool true
  | 18, val => val = .bool true
  | 19, val => val = .bool true
  | 20, val => val = .bool true
  | 21, val => val = .bool true
  | _, _ => True

theorem own_at {W : World} {base : Nat} {e : TypeId} {v : Value} {n : Nat} {xs : List Value} (h : W.ownsRow base e 1 v n xs) (hn : 0 < n) :
    ∃ g c cur, v = .slice (some ⟨g, 0, none⟩) n c ∧ W.heap[g]? = some (.cells cur e (0, 0)) ∧ ∀ j, j < n → cur[j]? = xs[j]? := by
  rcases h.2 with hz | ⟨g, cap, cur, rfl, _, hg, _, _, _, ht⟩
  · omega
  · refine ⟨g, cap, cur, rfl, hg, fun j hj => ?_⟩
    rw [← ht, List.getElem?_take_of_lt (by omega)]; simp

set_option maxHeartbeats 4000000 in
set_option maxRecDepth 100000 in
theorem ptrWhere_calls (x : Ptr) (hx : x.ok) (w : World) (hg : Laid w) : Calls Tryd.prog 5 #[.agg x.cells] w fun e w' => e = .returned (.bool true) ∧ Agrees All w w' := by
  have hb0 := World.alloc_heap_new w (.cells x.cells 27)
  have HB := Lib.hid hb0
  have HG := Lib.hid hg
  clear hb0 hg
  go_enter Tryd.func5, Tryd.ntmps5
  go_wp2_with (refine wpList_val rfl (ex_load (ty := 27) rfl isAgg_ptr w.heap.size 0 rfl x.cells rfl (x.load HB.out)) ?_)
  refine (where_calls x hx _).mono ?_
  rintro e W1 ⟨v, rfl, hown, hag⟩
  have HA1 := Lib.hid (((Agrees.refl All w).alloc _).trans hag)
  have HP1 := Lib.hid ((hag.block _ (Array.getElem?_eq_some_iff.1 HB.out).1 trivial).trans HB.out)
  have HL1 := Lib.hid (HG.out.agrees HA1.out)
  clear hag
  obtain ⟨kd, a0, a1, bi, su⟩ := x
  have hx' := hx
  obtain ⟨hk, h0, h1, hb⟩ := hx'
  simp only at hk h0 h1 hb
  obtain ⟨c0, c1, c2, c3, c4⟩ := ptr_at HP1.out
  have hw0 : IntKind.i64.wrap a0 = a0 := by rw [IntKind.wrap_i64]; omega
  have hw1 : IntKind.i64.wrap a1 = a1 := by rw [IntKind.wrap_i64]; omega
  have hL : (Ptr.mk kd a0 a1 bi su).addrs = if (kd == 1 || kd == 2) = true then [a0, a1] else if kd = 3 then [a0] else [] := rfl
  have hM : (Ptr.mk kd a0 a1 bi su).meta = (kd == 1 || kd == 2) := rfl
  rw [hL] at hown
  clear hL
  by_cases hmt : (kd == 1 || kd == 2) = true
  · rw [if_pos hmt] at hown
    obtain ⟨g, c, cur, rfl, hgr, hcur⟩ := own_at hown (by simp)
    have HGR := Lib.hid hgr
    have HC0 : RowKit.Hid (cur[0 + 0 * 1]? = some (.int .i64 a0)) := hcur 0 (by simp)
    have HC1 : RowKit.Hid (cur[0 + 1 * 1]? = some (.int .i64 a1)) := hcur 1 (by simp)
    obtain ⟨X, hX⟩ : ∃ X, X = Ptr.mk kd a0 a1 bi su := ⟨_, rfl⟩
    have hmeta : X.meta = true := by rw [hX]; exact hmt
    have hnone : X.none = false := by
      rw [hX]
      have h0 : (kd == 0) = false := by
        rcases Bool.or_eq_true_iff.1 hmt with h | h <;> simp at h <;> simp [h]
      simp [Ptr.none, h0]
    have hkd : kd = 1 ∨ kd = 2 := by simpa using hmt
    have hcz : X.cells = (Ptr.mk kd a0 a1 bi su).cells := by rw [hX]
    rw [← hcz]
    rw [← hX] at HP1 hx
    clear hown hgr hcur hM
    rcases hkd with hk1 | hk1
    all_goals
      have hk1' := Lib.hid hk1
      clear hk1
      have hq := hk1'.out
      go_wp2_with fail
      obtain ⟨W0, hW0⟩ : ∃ W0, W1.drew = W0 := ⟨_, rfl⟩
      have hpr : W0.heap[w.heap.size]? = some (.cells X.cells 27 (0, 0)) := by rw [← hW0]; exact HP1.out
      have hpl := (Array.getElem?_eq_some_iff.1 hpr).1
      have hgr : W0.heap[g]? = some (.cells cur 3 (0, 0)) := by rw [← hW0]; exact HGR.out
      have hgl := (Array.getElem?_eq_some_iff.1 hgr).1
      have hlaid : Laid W0 := by rw [← hW0]; exact HL1.out.agrees (Agrees.refl All _).drew
      have HA0 : RowKit.Hid (Agrees All w W0) := by rw [← hW0]; exact HA1.out.drew
      have hl0 : ∀ W, Agrees All W0 W → W.cell? ⟨g, 0 + 0 * 1, none⟩ = some (.int .i64 a0) := fun W h => by rw [cell_of_row W _ _ _ _ _ ((h.block g hgl trivial).trans hgr)]; exact HC0.out
      have hl1 : ∀ W, Agrees All W0 W → W.cell? ⟨g, 0 + 1 * 1, none⟩ = some (.int .i64 a1) := fun W h => by rw [cell_of_row W _ _ _ _ _ ((h.block g hgl trivial).trans hgr)]; exact HC1.out
      have hp0 : ∀ W, Agrees All W0 W → W.cell? ⟨w.heap.size, 1 + 0 * 1, none⟩ = some (.int .u16 a0) := fun W h => by rw [cell_of_row W _ _ _ _ _ ((h.block _ hpl trivial).trans hpr), hcz]; rfl
      have hp1 : ∀ W, Agrees All W0 W → W.cell? ⟨w.heap.size, 1 + 1 * 1, none⟩ = some (.int .u16 a1) := fun W h => by rw [cell_of_row W _ _ _ _ _ ((h.block _ hpl trivial).trans hpr), hcz]; rfl
      refine wp_region_plan (by kernel_rfl) ?hok (by kernel_rfl) (vWhere2 w.heap.size g c a0 a1 X) (fun _ _ W => Agrees All W0 W) ?h0 (fun i hi => ?steps) ?hend
      case hok => kernel_rfl
      case h0 => exact fun vals => by rw [← hW0]; exact Agrees.refl _ _
      case steps =>
        generalize w.heap.size = pb at *
        have hi' : i < 36 := hi
        match i, hi' with
        | 0, _ =>
          refine steps_of rfl ?_
          intro L aq wq hL hd st wi
          have o3 := st.outside (t := 3) rfl (v := .slice (some ⟨g, 0, none⟩) 2 c) rfl
          exact opTo_val (v := .slice (some ⟨g, 0, none⟩) 2 c) rfl (ex_move (.inl rfl) (eval_tmp o3)) ⟨(fun h => by cases h), rfl, wi⟩
        | 1, _ =>
          refine steps_of rfl ?_
          intro L aq wq hL hd st wi
          obtain ⟨u0, e0, V0⟩ := st.val 0 _ _ rfl rfl (hd ⟨0, .data⟩ (by simp) rfl)
          obtain rfl : .slice (some ⟨g, 0, none⟩) 2 c = u0 := V0.symm
          exact opTo_val (v := .int .i64 2) rfl (by simp [go_sem, Act.eval, e0]) ⟨(fun h => by cases h), rfl, wi⟩
        | 2, _ =>
          refine steps_of rfl ?_
          intro L aq wq hL hd st wi
          obtain ⟨u1, e1, V1⟩ := st.val 1 _ _ rfl rfl (hd ⟨1, .data⟩ (by simp) rfl)
          obtain rfl : .int .i64 2 = u1 := V1.symm
          exact opTo_val (v := .bool true) rfl (by simp [go_sem, Act.eval, e1]) ⟨(fun h => by cases h), rfl, wi⟩
        | 3, _ =>
          refine steps_of rfl ?_
          intro L aq wq hL hd st wi
          obtain ⟨u2, e2, V2⟩ := st.val 2 _ _ rfl rfl (hd ⟨2, .data⟩ (by simp) rfl)
          obtain rfl : .bool true = u2 := V2.symm
          exact opTo_val (v := .bool true) rfl (ex_move (.inl rfl) (eval_tmp e2)) ⟨(fun h => by cases h), rfl, wi⟩
        | 4, _ =>
          refine steps_of rfl ?_
          intro L aq wq hL hd st wi
          have o3 := st.outside (t := 3) rfl (v := .slice (some ⟨g, 0, none⟩) 2 c) rfl
          obtain ⟨u3, e3, V3⟩ := st.val 3 _ _ rfl rfl (hd ⟨3, .guard⟩ (by simp) rfl)
          obtain rfl : .bool true = u3 := V3.symm
          exact opTo_val (v := .slice (some ⟨g, 0, none⟩) 2 c) (by simp [Region.wanted, yielded, e3]) (ex_move (.inl rfl) (eval_tmp o3)) ⟨(fun h => by cases h), rfl, wi⟩
        | 5, _ =>
          refine steps_of rfl ?_
          intro L aq wq hL hd st wi
          obtain ⟨u4, e4, V4⟩ := st.val 4 _ _ rfl rfl (hd ⟨4, .data⟩ (by simp) rfl)
          obtain rfl : .slice (some ⟨g, 0, none⟩) 2 c = u4 := V4.symm
          obtain ⟨u3, e3, V3⟩ := st.val 3 _ _ rfl rfl (hd ⟨3, .guard⟩ (by simp) rfl)
          obtain rfl : .bool true = u3 := V3.symm
          exact opTo_val (v := .pointer (some ⟨g, 0 + 0 * 1, none⟩)) (by simp [Region.wanted, yielded, e3]) (ex_idx rfl Tryd.underlying44 (by kernel_rfl) g 0 2 c 0 (eval_tmp e4) rfl (by omega)) ⟨(fun h => by cases h), rfl, wi⟩
        | 6, _ =>
          refine steps_of rfl ?_
          intro L aq wq hL hd st wi
          obtain ⟨u5, e5, V5⟩ := st.val 5 _ _ rfl rfl (hd ⟨5, .data⟩ (by simp) rfl)
          obtain rfl : .pointer (some ⟨g, 0 + 0 * 1, none⟩) = u5 := V5.symm
          obtain ⟨u3, e3, V3⟩ := st.val 3 _ _ rfl rfl (hd ⟨3, .guard⟩ (by simp) rfl)
          obtain rfl : .bool true = u3 := V3.symm
          exact opTo_val (v := .int .i64 a0) (by simp [Region.wanted, yielded, e3]) (ex_load1 rfl oneInt (eval_tmp e5) (hl0 wq wi)) ⟨(fun h => by cases h), rfl, wi⟩
        | 7, _ =>
          refine steps_of rfl ?_
          intro L aq wq hL hd st wi
          have o1 := st.outside (t := 1) rfl (v := .pointer (some ⟨pb, 0, none⟩)) rfl
          obtain ⟨u3, e3, V3⟩ := st.val 3 _ _ rfl rfl (hd ⟨3, .guard⟩ (by simp) rfl)
          obtain rfl : .bool true = u3 := V3.symm
          exact opTo_val (v := .pointer (some ⟨pb, 1, none⟩)) (by simp [Region.wanted, yielded, e3]) (by simp [go_sem, Act.eval, o1]) ⟨(fun h => by cases h), rfl, wi⟩
        | 8, _ =>
          refine steps_of rfl ?_
          intro L aq wq hL hd st wi
          obtain ⟨u7, e7, V7⟩ := st.val 7 _ _ rfl rfl (hd ⟨7, .data⟩ (by simp) rfl)
          obtain rfl : .pointer (some ⟨pb, 1, none⟩) = u7 := V7.symm
          obtain ⟨u3, e3, V3⟩ := st.val 3 _ _ rfl rfl (hd ⟨3, .guard⟩ (by simp) rfl)
          obtain rfl : .bool true = u3 := V3.symm
          exact opTo_val (v := .pointer (some ⟨pb, 1 + 0 * 1, none⟩)) (by simp [Region.wanted, yielded, e3]) (ex_idxArr rfl Tryd.underlying23 (by kernel_rfl) pb 1 0 (eval_tmp e7) rfl (by omega)) ⟨(fun h => by cases h), rfl, wi⟩
        | 9, _ =>
          refine steps_of rfl ?_
          intro L aq wq hL hd st wi
          obtain ⟨u8, e8, V8⟩ := st.val 8 _ _ rfl rfl (hd ⟨8, .data⟩ (by simp) rfl)
          obtain rfl : .pointer (some ⟨pb, 1 + 0 * 1, none⟩) = u8 := V8.symm
          obtain ⟨u3, e3, V3⟩ := st.val 3 _ _ rfl rfl (hd ⟨3, .guard⟩ (by simp) rfl)
          obtain rfl : .bool true = u3 := V3.symm
          exact opTo_val (v := .int .u16 a0) (by simp [Region.wanted, yielded, e3]) (ex_load1 rfl oneU16 (eval_tmp e8) (hp0 wq wi)) ⟨(fun h => by cases h), rfl, wi⟩
        | 10, _ =>
          refine steps_of rfl ?_
          intro L aq wq hL hd st wi
          obtain ⟨u9, e9, V9⟩ := st.val 9 _ _ rfl rfl (hd ⟨9, .data⟩ (by simp) rfl)
          obtain rfl : .int .u16 a0 = u9 := V9.symm
          obtain ⟨u3, e3, V3⟩ := st.val 3 _ _ rfl rfl (hd ⟨3, .guard⟩ (by simp) rfl)
          obtain rfl : .bool true = u3 := V3.symm
          exact opTo_val (v := .int .i64 a0) (by simp [Region.wanted, yielded, e3]) (by simp [go_sem, Act.eval, e9, hw0]) ⟨(fun h => by cases h), rfl, wi⟩
        | 11, _ =>
          refine steps_of rfl ?_
          intro L aq wq hL hd st wi
          obtain ⟨u6, e6, V6⟩ := st.val 6 _ _ rfl rfl (hd ⟨6, .data⟩ (by simp) rfl)
          obtain rfl : .int .i64 a0 = u6 := V6.symm
          obtain ⟨u10, e10, V10⟩ := st.val 10 _ _ rfl rfl (hd ⟨10, .data⟩ (by simp) rfl)
          obtain rfl : .int .i64 a0 = u10 := V10.symm
          obtain ⟨u3, e3, V3⟩ := st.val 3 _ _ rfl rfl (hd ⟨3, .guard⟩ (by simp) rfl)
          obtain rfl : .bool true = u3 := V3.symm
          exact opTo_val (v := .bool true) (by simp [Region.wanted, yielded, e3]) (by simp [go_sem, Act.eval, e6, e10]) ⟨(fun h => by cases h), rfl, wi⟩
        | 12, _ =>
          refine steps_of rfl ?_
          intro L aq wq hL hd st wi
          obtain ⟨u3, e3, V3⟩ := st.val 3 _ _ rfl rfl (hd ⟨3, .data⟩ (by simp) rfl)
          obtain rfl : .bool true = u3 := V3.symm
          obtain ⟨u11, e11, V11⟩ := st.val 11 _ _ rfl rfl (hd ⟨11, .data⟩ (by simp) rfl)
          obtain rfl : .bool true = u11 := V11.symm
          exact opTo_val (v := .bool true) rfl (by simp [go_sem, Act.eval, e3, e11]) ⟨(fun h => by cases h), rfl, wi⟩
        | 13, _ =>
          refine steps_of rfl ?_
          intro L aq wq hL hd st wi
          obtain ⟨u12, e12, V12⟩ := st.val 12 _ _ rfl rfl (hd ⟨12, .data⟩ (by simp) rfl)
          obtain rfl : .bool true = u12 := V12.symm
          exact opTo_val (v := .bool true) rfl (ex_move (.inl rfl) (eval_tmp e12)) ⟨(fun h => by cases h), rfl, wi⟩
        | 14, _ =>
          refine steps_of rfl ?_
          intro L aq wq hL hd st wi
          have o3 := st.outside (t := 3) rfl (v := .slice (some ⟨g, 0, none⟩) 2 c) rfl
          obtain ⟨u13, e13, V13⟩ := st.val 13 _ _ rfl rfl (hd ⟨13, .guard⟩ (by simp) rfl)
          obtain rfl : .bool true = u13 := V13.symm
          exact opTo_val (v := .slice (some ⟨g, 0, none⟩) 2 c) (by simp [Region.wanted, yielded, e13]) (ex_move (.inl rfl) (eval_tmp o3)) ⟨(fun h => by cases h), rfl, wi⟩
        | 15, _ =>
          refine steps_of rfl ?_
          intro L aq wq hL hd st wi
          obtain ⟨u14, e14, V14⟩ := st.val 14 _ _ rfl rfl (hd ⟨14, .data⟩ (by simp) rfl)
          obtain rfl : .slice (some ⟨g, 0, none⟩) 2 c = u14 := V14.symm
          obtain ⟨u13, e13, V13⟩ := st.val 13 _ _ rfl rfl (hd ⟨13, .guard⟩ (by simp) rfl)
          obtain rfl : .bool true = u13 := V13.symm
          exact opTo_val (v := .pointer (some ⟨g, 0 + 1 * 1, none⟩)) (by simp [Region.wanted, yielded, e13]) (ex_idx rfl Tryd.underlying44 (by kernel_rfl) g 0 2 c 1 (eval_tmp e14) rfl (by omega)) ⟨(fun h => by cases h), rfl, wi⟩
        | 16, _ =>
          refine steps_of rfl ?_
          intro L aq wq hL hd st wi
          obtain ⟨u15, e15, V15⟩ := st.val 15 _ _ rfl rfl (hd ⟨15, .data⟩ (by simp) rfl)
          obtain rfl : .pointer (some ⟨g, 0 + 1 * 1, none⟩) = u15 := V15.symm
          obtain ⟨u13, e13, V13⟩ := st.val 13 _ _ rfl rfl (hd ⟨13, .guard⟩ (by simp) rfl)
          obtain rfl : .bool true = u13 := V13.symm
          exact opTo_val (v := .int .i64 a1) (by simp [Region.wanted, yielded, e13]) (ex_load1 rfl oneInt (eval_tmp e15) (hl1 wq wi)) ⟨(fun h => by cases h), rfl, wi⟩
        | 17, _ =>
          refine steps_of rfl ?_
          intro L aq wq hL hd st wi
          have o1 := st.outside (t := 1) rfl (v := .pointer (some ⟨pb, 0, none⟩)) rfl
          obtain ⟨u13, e13, V13⟩ := st.val 13 _ _ rfl rfl (hd ⟨13, .guard⟩ (by simp) rfl)
          obtain rfl : .bool true = u13 := V13.symm
          exact opTo_val (v := .pointer (some ⟨pb, 1, none⟩)) (by simp [Region.wanted, yielded, e13]) (by simp [go_sem, Act.eval, o1]) ⟨(fun h => by cases h), rfl, wi⟩
        | 18, _ =>
          refine steps_of rfl ?_
          intro L aq wq hL hd st wi
          obtain ⟨u17, e17, V17⟩ := st.val 17 _ _ rfl rfl (hd ⟨17, .data⟩ (by simp) rfl)
          obtain rfl : .pointer (some ⟨pb, 1, none⟩) = u17 := V17.symm
          obtain ⟨u13, e13, V13⟩ := st.val 13 _ _ rfl rfl (hd ⟨13, .guard⟩ (by simp) rfl)
          obtain rfl : .bool true = u13 := V13.symm
          exact opTo_val (v := .pointer (some ⟨pb, 1 + 1 * 1, none⟩)) (by simp [Region.wanted, yielded, e13]) (ex_idxArr rfl Tryd.underlying23 (by kernel_rfl) pb 1 1 (eval_tmp e17) rfl (by omega)) ⟨(fun h => by cases h), rfl, wi⟩
        | 19, _ =>
          refine steps_of rfl ?_
          intro L aq wq hL hd st wi
          obtain ⟨u18, e18, V18⟩ := st.val 18 _ _ rfl rfl (hd ⟨18, .data⟩ (by simp) rfl)
          obtain rfl : .pointer (some ⟨pb, 1 + 1 * 1, none⟩) = u18 := V18.symm
          obtain ⟨u13, e13, V13⟩ := st.val 13 _ _ rfl rfl (hd ⟨13, .guard⟩ (by simp) rfl)
          obtain rfl : .bool true = u13 := V13.symm
          exact opTo_val (v := .int .u16 a1) (by simp [Region.wanted, yielded, e13]) (ex_load1 rfl oneU16 (eval_tmp e18) (hp1 wq wi)) ⟨(fun h => by cases h), rfl, wi⟩
        | 20, _ =>
          refine steps_of rfl ?_
          intro L aq wq hL hd st wi
          obtain ⟨u19, e19, V19⟩ := st.val 19 _ _ rfl rfl (hd ⟨19, .data⟩ (by simp) rfl)
          obtain rfl : .int .u16 a1 = u19 := V19.symm
          obtain ⟨u13, e13, V13⟩ := st.val 13 _ _ rfl rfl (hd ⟨13, .guard⟩ (by simp) rfl)
          obtain rfl : .bool true = u13 := V13.symm
          exact opTo_val (v := .int .i64 a1) (by simp [Region.wanted, yielded, e13]) (by simp [go_sem, Act.eval, e19, hw1]) ⟨(fun h => by cases h), rfl, wi⟩
        | 21, _ =>
          refine steps_of rfl ?_
          intro L aq wq hL hd st wi
          obtain ⟨u16, e16, V16⟩ := st.val 16 _ _ rfl rfl (hd ⟨16, .data⟩ (by simp) rfl)
          obtain rfl : .int .i64 a1 = u16 := V16.symm
          obtain ⟨u20, e20, V20⟩ := st.val 20 _ _ rfl rfl (hd ⟨20, .data⟩ (by simp) rfl)
          obtain rfl : .int .i64 a1 = u20 := V20.symm
          obtain ⟨u13, e13, V13⟩ := st.val 13 _ _ rfl rfl (hd ⟨13, .guard⟩ (by simp) rfl)
          obtain rfl : .bool true = u13 := V13.symm
          exact opTo_val (v := .bool true) (by simp [Region.wanted, yielded, e13]) (by simp [go_sem, Act.eval, e16, e20]) ⟨(fun h => by cases h), rfl, wi⟩
        | 22, _ =>
          refine steps_of rfl ?_
          intro L aq wq hL hd st wi
          obtain ⟨u13, e13, V13⟩ := st.val 13 _ _ rfl rfl (hd ⟨13, .data⟩ (by simp) rfl)
          obtain rfl : .bool true = u13 := V13.symm
          obtain ⟨u21, e21, V21⟩ := st.val 21 _ _ rfl rfl (hd ⟨21, .data⟩ (by simp) rfl)
          obtain rfl : .bool true = u21 := V21.symm
          exact opTo_val (v := .bool true) rfl (by simp [go_sem, Act.eval, e13, e21]) ⟨(fun h => by cases h), rfl, wi⟩
        | 23, _ =>
          refine steps_of rfl ?_
          intro L aq wq hL hd st wi
          obtain ⟨u22, e22, V22⟩ := st.val 22 _ _ rfl rfl (hd ⟨22, .data⟩ (by simp) rfl)
          obtain rfl : .bool true = u22 := V22.symm
          exact opTo_val (v := .bool true) rfl (ex_move (.inl rfl) (eval_tmp e22)) ⟨(fun h => by cases h), rfl, wi⟩
        | 24, _ =>
          refine steps_of rfl ?_
          intro L aq wq hL hd st wi
          have o1 := st.outside (t := 1) rfl (v := .pointer (some ⟨pb, 0, none⟩)) rfl
          obtain ⟨u23, e23, V23⟩ := st.val 23 _ _ rfl rfl (hd ⟨23, .guard⟩ (by simp) rfl)
          obtain rfl : .bool true = u23 := V23.symm
          exact opTo_val (v := .agg X.cells) (by simp [Region.wanted, yielded, e23]) (ex_load rfl isAgg_ptr pb 0 (eval_tmp o1) X.cells rfl (X.load ((wi.block pb hpl trivial).trans hpr))) ⟨(fun h => by cases h), rfl, wi⟩
        | 25, _ =>
          refine steps_of rfl ?_
          intro L aq wq hL hd st wi
          obtain ⟨u24, e24, V24⟩ := st.val 24 _ _ rfl rfl (hd ⟨24, .data⟩ (by simp) rfl)
          obtain rfl : .agg X.cells = u24 := V24.symm
          obtain ⟨u23, e23, V23⟩ := st.val 23 _ _ rfl rfl (hd ⟨23, .chain⟩ (by simp) rfl)
          obtain rfl : .bool true = u23 := V23.symm
          refine opTo_call (w' := wq) (f := 15) (args := #[.agg X.cells]) (by simp [Region.wanted, yielded, e23]) (by simp [go_sem, Act.eval, e24]) ((meta_calls X wq).mono ?_)
          rintro e w' ⟨rfl, hag⟩
          exact ⟨_, by rw [hmeta], (fun h => by cases h), rfl, wi.trans hag⟩
        | 26, _ =>
          refine steps_of rfl ?_
          intro L aq wq hL hd st wi
          obtain ⟨u23, e23, V23⟩ := st.val 23 _ _ rfl rfl (hd ⟨23, .data⟩ (by simp) rfl)
          obtain rfl : .bool true = u23 := V23.symm
          obtain ⟨u25, e25, V25⟩ := st.val 25 _ _ rfl rfl (hd ⟨25, .data⟩ (by simp) rfl)
          obtain rfl : .bool true = u25 := V25.symm
          exact opTo_val (v := .bool true) rfl (by simp [go_sem, Act.eval, e23, e25]) ⟨(fun h => by cases h), rfl, wi⟩
        | 27, _ =>
          refine steps_of rfl ?_
          intro L aq wq hL hd st wi
          obtain ⟨u26, e26, V26⟩ := st.val 26 _ _ rfl rfl (hd ⟨26, .data⟩ (by simp) rfl)
          obtain rfl : .bool true = u26 := V26.symm
          exact opTo_val (v := .bool true) rfl (ex_move (.inl rfl) (eval_tmp e26)) ⟨(fun h => by cases h), rfl, wi⟩
        | 28, _ =>
          refine steps_of rfl ?_
          intro L aq wq hL hd st wi
          have o1 := st.outside (t := 1) rfl (v := .pointer (some ⟨pb, 0, none⟩)) rfl
          obtain ⟨u27, e27, V27⟩ := st.val 27 _ _ rfl rfl (hd ⟨27, .guard⟩ (by simp) rfl)
          obtain rfl : .bool true = u27 := V27.symm
          exact opTo_val (v := .agg X.cells) (by simp [Region.wanted, yielded, e27]) (ex_load rfl isAgg_ptr pb 0 (eval_tmp o1) X.cells rfl (X.load ((wi.block pb hpl trivial).trans hpr))) ⟨(fun h => by cases h), rfl, wi⟩
        | 29, _ =>
          refine steps_of rfl ?_
          intro L aq wq hL hd st wi
          obtain ⟨u28, e28, V28⟩ := st.val 28 _ _ rfl rfl (hd ⟨28, .data⟩ (by simp) rfl)
          obtain rfl : .agg X.cells = u28 := V28.symm
          obtain ⟨u27, e27, V27⟩ := st.val 27 _ _ rfl rfl (hd ⟨27, .chain⟩ (by simp) rfl)
          obtain rfl : .bool true = u27 := V27.symm
          refine opTo_call (w' := wq) (f := 16) (args := #[.agg X.cells]) (by simp [Region.wanted, yielded, e27]) (by simp [go_sem, Act.eval, e28]) ((none_calls X hx wq).mono ?_)
          rintro e w' ⟨rfl, hag⟩
          exact ⟨_, by rw [hnone], (fun h => by cases h), rfl, wi.trans hag⟩
        | 30, _ =>
          refine steps_of rfl ?_
          intro L aq wq hL hd st wi
          obtain ⟨u29, e29, V29⟩ := st.val 29 _ _ rfl rfl (hd ⟨29, .data⟩ (by simp) rfl)
          obtain rfl : .bool false = u29 := V29.symm
          obtain ⟨u27, e27, V27⟩ := st.val 27 _ _ rfl rfl (hd ⟨27, .guard⟩ (by simp) rfl)
          obtain rfl : .bool true = u27 := V27.symm
          exact opTo_val (v := .bool true) (by simp [Region.wanted, yielded, e27]) (by simp [go_sem, Act.eval, e29]) ⟨(fun h => by cases h), rfl, wi⟩
        | 31, _ =>
          refine steps_of rfl ?_
          intro L aq wq hL hd st wi
          obtain ⟨u27, e27, V27⟩ := st.val 27 _ _ rfl rfl (hd ⟨27, .data⟩ (by simp) rfl)
          obtain rfl : .bool true = u27 := V27.symm
          obtain ⟨u30, e30, V30⟩ := st.val 30 _ _ rfl rfl (hd ⟨30, .data⟩ (by simp) rfl)
          obtain rfl : .bool true = u30 := V30.symm
          exact opTo_val (v := .bool true) rfl (by simp [go_sem, Act.eval, e27, e30]) ⟨(fun h => by cases h), rfl, wi⟩
        | 32, _ =>
          refine steps_of rfl ?_
          intro L aq wq hL hd st wi
          obtain ⟨u31, e31, V31⟩ := st.val 31 _ _ rfl rfl (hd ⟨31, .data⟩ (by simp) rfl)
          obtain rfl : .bool true = u31 := V31.symm
          exact opTo_val (v := .bool true) rfl (ex_move (.inl rfl) (eval_tmp e31)) ⟨(fun h => by cases h), rfl, wi⟩
        | 33, _ =>
          refine steps_of rfl ?_
          intro L aq wq hL hd st wi
          obtain ⟨u32, e32, V32⟩ := st.val 32 _ _ rfl rfl (hd ⟨32, .chain⟩ (by simp) rfl)
          obtain rfl : .bool true = u32 := V32.symm
          refine opTo_call (w' := wq) (f := 6) (args := #[]) (by simp [Region.wanted, yielded, e32]) (by simp [go_sem, Act.eval]) ((wakes05_calls wq (hlaid.agrees wi)).mono ?_)
          rintro e w' ⟨rfl, hag⟩
          exact ⟨_, rfl, (fun h => by cases h), rfl, wi.trans hag⟩
        | 34, _ =>
          refine steps_of rfl ?_
          intro L aq wq hL hd st wi
          obtain ⟨u32, e32, V32⟩ := st.val 32 _ _ rfl rfl (hd ⟨32, .data⟩ (by simp) rfl)
          obtain rfl : .bool true = u32 := V32.symm
          obtain ⟨u33, e33, V33⟩ := st.val 33 _ _ rfl rfl (hd ⟨33, .data⟩ (by simp) rfl)
          obtain rfl : .bool true = u33 := V33.symm
          exact opTo_val (v := .bool true) rfl (by simp [go_sem, Act.eval, e32, e33]) ⟨(fun h => by cases h), rfl, wi⟩
        | 35, _ =>
          refine steps_of rfl ?_
          intro L aq wq hL hd st wi
          obtain ⟨u34, e34, V34⟩ := st.val 34 _ _ rfl rfl (hd ⟨34, .data⟩ (by simp) rfl)
          obtain rfl : .bool true = u34 := V34.symm
          exact opTo_val (v := .bool true) rfl (ex_move (.inr rfl) (eval_tmp e34)) ⟨(fun h => by cases h), rfl, wi⟩
        | (i + 36), h => omega
      case hend =>
        intro vals w' hV hW
        have HF := Lib.hid (HA0.out.trans hW)
        have xl : vals 35 = .bool true := hV 35 _ _ rfl rfl
        simp only [putAll, Act.put, List.setIfInBounds_toArray, List.set_cons_succ, List.set_cons_zero, xl]
        clear hV hW hl0 hl1 hp1 hp0 hpr hgr
        go_wp2_with fail
        go_ret
        exact ⟨rfl, HF.out⟩
  · rw [if_neg hmt] at hown
    have hmf : (kd == 1 || kd == 2) = false := by simpa using hmt
    obtain ⟨X, hX⟩ : ∃ X, X = Ptr.mk kd a0 a1 bi su := ⟨_, rfl⟩
    have hmeta : X.meta = false := by rw [hX]; exact hmf
    have hcz : X.cells = (Ptr.mk kd a0 a1 bi su).cells := by rw [hX]
    by_cases h3 : kd = 3
    · rw [if_pos h3] at hown
      obtain ⟨g, c, cur, rfl, hgr, hcur⟩ := own_at hown (by simp)
      have HGR := Lib.hid hgr
      have HC0 : RowKit.Hid (cur[0 + 0 * 1]? = some (.int .i64 a0)) := hcur 0 (by simp)
      rw [← hcz]
      rw [← hX] at HP1 hx
      clear hown hgr hcur hM hmt hmf
      subst h3
      go_wp2_with fail
      obtain ⟨W0, hW0⟩ : ∃ W0, W1.drew = W0 := ⟨_, rfl⟩
      have hpr : W0.heap[w.heap.size]? = some (.cells X.cells 27 (0, 0)) := by rw [← hW0]; exact HP1.out
      have hpl := (Array.getElem?_eq_some_iff.1 hpr).1
      have hgr : W0.heap[g]? = some (.cells cur 3 (0, 0)) := by rw [← hW0]; exact HGR.out
      have hgl := (Array.getElem?_eq_some_iff.1 hgr).1
      have hlaid : Laid W0 := by rw [← hW0]; exact HL1.out.agrees (Agrees.refl All _).drew
      have HA0 : RowKit.Hid (Agrees All w W0) := by rw [← hW0]; exact HA1.out.drew
      have hl0 : ∀ W, Agrees All W0 W → W.cell? ⟨g, 0 + 0 * 1, none⟩ = some (.int .i64 a0) := fun W h => by rw [cell_of_row W _ _ _ _ _ ((h.block g hgl trivial).trans hgr)]; exact HC0.out

      have hp0 : ∀ W, Agrees All W0 W → W.cell? ⟨w.heap.size, 1 + 0 * 1, none⟩ = some (.int .u16 a0) := fun W h => by rw [cell_of_row W _ _ _ _ _ ((h.block _ hpl trivial).trans hpr), hcz]; rfl

      refine wp_region_plan (by kernel_rfl) ?hok (by kernel_rfl) (vWhere1 w.heap.size g c a0 X) (fun _ _ W => Agrees All W0 W) ?h0 (fun i hi => ?steps) ?hend
      case hok => kernel_rfl
      case h0 => exact fun vals => by rw [← hW0]; exact Agrees.refl _ _
      case steps =>
        generalize w.heap.size = pb at *
        have hi' : i < 22 := hi
        match i, hi' with
        | 0, _ =>
          refine steps_of rfl ?_
          intro L aq wq hL hd st wi
          have o3 := st.outside (t := 3) rfl (v := .slice (some ⟨g, 0, none⟩) 1 c) rfl
          exact opTo_val (v := .slice (some ⟨g, 0, none⟩) 1 c) rfl (ex_move (.inl rfl) (eval_tmp o3)) ⟨(fun h => by cases h), rfl, wi⟩
        | 1, _ =>
          refine steps_of rfl ?_
          intro L aq wq hL hd st wi
          obtain ⟨u0, e0, V0⟩ := st.val 0 _ _ rfl rfl (hd ⟨0, .data⟩ (by simp) rfl)
          obtain rfl : .slice (some ⟨g, 0, none⟩) 1 c = u0 := V0.symm
          exact opTo_val (v := .int .i64 1) rfl (by simp [go_sem, Act.eval, e0]) ⟨(fun h => by cases h), rfl, wi⟩
        | 2, _ =>
          refine steps_of rfl ?_
          intro L aq wq hL hd st wi
          obtain ⟨u1, e1, V1⟩ := st.val 1 _ _ rfl rfl (hd ⟨1, .data⟩ (by simp) rfl)
          obtain rfl : .int .i64 1 = u1 := V1.symm
          exact opTo_val (v := .bool true) rfl (by simp [go_sem, Act.eval, e1]) ⟨(fun h => by cases h), rfl, wi⟩
        | 3, _ =>
          refine steps_of rfl ?_
          intro L aq wq hL hd st wi
          obtain ⟨u2, e2, V2⟩ := st.val 2 _ _ rfl rfl (hd ⟨2, .data⟩ (by simp) rfl)
          obtain rfl : .bool true = u2 := V2.symm
          exact opTo_val (v := .bool true) rfl (ex_move (.inl rfl) (eval_tmp e2)) ⟨(fun h => by cases h), rfl, wi⟩
        | 4, _ =>
          refine steps_of rfl ?_
          intro L aq wq hL hd st wi
          have o3 := st.outside (t := 3) rfl (v := .slice (some ⟨g, 0, none⟩) 1 c) rfl
          obtain ⟨u3, e3, V3⟩ := st.val 3 _ _ rfl rfl (hd ⟨3, .guard⟩ (by simp) rfl)
          obtain rfl : .bool true = u3 := V3.symm
          exact opTo_val (v := .slice (some ⟨g, 0, none⟩) 1 c) (by simp [Region.wanted, yielded, e3]) (ex_move (.inl rfl) (eval_tmp o3)) ⟨(fun h => by cases h), rfl, wi⟩
        | 5, _ =>
          refine steps_of rfl ?_
          intro L aq wq hL hd st wi
          obtain ⟨u4, e4, V4⟩ := st.val 4 _ _ rfl rfl (hd ⟨4, .data⟩ (by simp) rfl)
          obtain rfl : .slice (some ⟨g, 0, none⟩) 1 c = u4 := V4.symm
          obtain ⟨u3, e3, V3⟩ := st.val 3 _ _ rfl rfl (hd ⟨3, .guard⟩ (by simp) rfl)
          obtain rfl : .bool true = u3 := V3.symm
          exact opTo_val (v := .pointer (some ⟨g, 0 + 0 * 1, none⟩)) (by simp [Region.wanted, yielded, e3]) (ex_idx rfl Tryd.underlying44 (by kernel_rfl) g 0 1 c 0 (eval_tmp e4) rfl (by omega)) ⟨(fun h => by cases h), rfl, wi⟩
        | 6, _ =>
          refine steps_of rfl ?_
          intro L aq wq hL hd st wi
          obtain ⟨u5, e5, V5⟩ := st.val 5 _ _ rfl rfl (hd ⟨5, .data⟩ (by simp) rfl)
          obtain rfl : .pointer (some ⟨g, 0 + 0 * 1, none⟩) = u5 := V5.symm
          obtain ⟨u3, e3, V3⟩ := st.val 3 _ _ rfl rfl (hd ⟨3, .guard⟩ (by simp) rfl)
          obtain rfl : .bool true = u3 := V3.symm
          exact opTo_val (v := .int .i64 a0) (by simp [Region.wanted, yielded, e3]) (ex_load1 rfl oneInt (eval_tmp e5) (hl0 wq wi)) ⟨(fun h => by cases h), rfl, wi⟩
        | 7, _ =>
          refine steps_of rfl ?_
          intro L aq wq hL hd st wi
          have o1 := st.outside (t := 1) rfl (v := .pointer (some ⟨pb, 0, none⟩)) rfl
          obtain ⟨u3, e3, V3⟩ := st.val 3 _ _ rfl rfl (hd ⟨3, .guard⟩ (by simp) rfl)
          obtain rfl : .bool true = u3 := V3.symm
          exact opTo_val (v := .pointer (some ⟨pb, 1, none⟩)) (by simp [Region.wanted, yielded, e3]) (by simp [go_sem, Act.eval, o1]) ⟨(fun h => by cases h), rfl, wi⟩
        | 8, _ =>
          refine steps_of rfl ?_
          intro L aq wq hL hd st wi
          obtain ⟨u7, e7, V7⟩ := st.val 7 _ _ rfl rfl (hd ⟨7, .data⟩ (by simp) rfl)
          obtain rfl : .pointer (some ⟨pb, 1, none⟩) = u7 := V7.symm
          obtain ⟨u3, e3, V3⟩ := st.val 3 _ _ rfl rfl (hd ⟨3, .guard⟩ (by simp) rfl)
          obtain rfl : .bool true = u3 := V3.symm
          exact opTo_val (v := .pointer (some ⟨pb, 1 + 0 * 1, none⟩)) (by simp [Region.wanted, yielded, e3]) (ex_idxArr rfl Tryd.underlying23 (by kernel_rfl) pb 1 0 (eval_tmp e7) rfl (by omega)) ⟨(fun h => by cases h), rfl, wi⟩
        | 9, _ =>
          refine steps_of rfl ?_
          intro L aq wq hL hd st wi
          obtain ⟨u8, e8, V8⟩ := st.val 8 _ _ rfl rfl (hd ⟨8, .data⟩ (by simp) rfl)
          obtain rfl : .pointer (some ⟨pb, 1 + 0 * 1, none⟩) = u8 := V8.symm
          obtain ⟨u3, e3, V3⟩ := st.val 3 _ _ rfl rfl (hd ⟨3, .guard⟩ (by simp) rfl)
          obtain rfl : .bool true = u3 := V3.symm
          exact opTo_val (v := .int .u16 a0) (by simp [Region.wanted, yielded, e3]) (ex_load1 rfl oneU16 (eval_tmp e8) (hp0 wq wi)) ⟨(fun h => by cases h), rfl, wi⟩
        | 10, _ =>
          refine steps_of rfl ?_
          intro L aq wq hL hd st wi
          obtain ⟨u9, e9, V9⟩ := st.val 9 _ _ rfl rfl (hd ⟨9, .data⟩ (by simp) rfl)
          obtain rfl : .int .u16 a0 = u9 := V9.symm
          obtain ⟨u3, e3, V3⟩ := st.val 3 _ _ rfl rfl (hd ⟨3, .guard⟩ (by simp) rfl)
          obtain rfl : .bool true = u3 := V3.symm
          exact opTo_val (v := .int .i64 a0) (by simp [Region.wanted, yielded, e3]) (by simp [go_sem, Act.eval, e9, hw0]) ⟨(fun h => by cases h), rfl, wi⟩
        | 11, _ =>
          refine steps_of rfl ?_
          intro L aq wq hL hd st wi
          obtain ⟨u6, e6, V6⟩ := st.val 6 _ _ rfl rfl (hd ⟨6, .data⟩ (by simp) rfl)
          obtain rfl : .int .i64 a0 = u6 := V6.symm
          obtain ⟨u10, e10, V10⟩ := st.val 10 _ _ rfl rfl (hd ⟨10, .data⟩ (by simp) rfl)
          obtain rfl : .int .i64 a0 = u10 := V10.symm
          obtain ⟨u3, e3, V3⟩ := st.val 3 _ _ rfl rfl (hd ⟨3, .guard⟩ (by simp) rfl)
          obtain rfl : .bool true = u3 := V3.symm
          exact opTo_val (v := .bool true) (by simp [Region.wanted, yielded, e3]) (by simp [go_sem, Act.eval, e6, e10]) ⟨(fun h => by cases h), rfl, wi⟩
        | 12, _ =>
          refine steps_of rfl ?_
          intro L aq wq hL hd st wi
          obtain ⟨u3, e3, V3⟩ := st.val 3 _ _ rfl rfl (hd ⟨3, .data⟩ (by simp) rfl)
          obtain rfl : .bool true = u3 := V3.symm
          obtain ⟨u11, e11, V11⟩ := st.val 11 _ _ rfl rfl (hd ⟨11, .data⟩ (by simp) rfl)
          obtain rfl : .bool true = u11 := V11.symm
          exact opTo_val (v := .bool true) rfl (by simp [go_sem, Act.eval, e3, e11]) ⟨(fun h => by cases h), rfl, wi⟩
        | 13, _ =>
          refine steps_of rfl ?_
          intro L aq wq hL hd st wi
          obtain ⟨u12, e12, V12⟩ := st.val 12 _ _ rfl rfl (hd ⟨12, .data⟩ (by simp) rfl)
          obtain rfl : .bool true = u12 := V12.symm
          exact opTo_val (v := .bool true) rfl (ex_move (.inl rfl) (eval_tmp e12)) ⟨(fun h => by cases h), rfl, wi⟩
        | 14, _ =>
          refine steps_of rfl ?_
          intro L aq wq hL hd st wi
          have o1 := st.outside (t := 1) rfl (v := .pointer (some ⟨pb, 0, none⟩)) rfl
          obtain ⟨u13, e13, V13⟩ := st.val 13 _ _ rfl rfl (hd ⟨13, .guard⟩ (by simp) rfl)
          obtain rfl : .bool true = u13 := V13.symm
          exact opTo_val (v := .agg X.cells) (by simp [Region.wanted, yielded, e13]) (ex_load rfl isAgg_ptr pb 0 (eval_tmp o1) X.cells rfl (X.load ((wi.block pb hpl trivial).trans hpr))) ⟨(fun h => by cases h), rfl, wi⟩
        | 15, _ =>
          refine steps_of rfl ?_
          intro L aq wq hL hd st wi
          obtain ⟨u14, e14, V14⟩ := st.val 14 _ _ rfl rfl (hd ⟨14, .data⟩ (by simp) rfl)
          obtain rfl : .agg X.cells = u14 := V14.symm
          obtain ⟨u13, e13, V13⟩ := st.val 13 _ _ rfl rfl (hd ⟨13, .chain⟩ (by simp) rfl)
          obtain rfl : .bool true = u13 := V13.symm
          refine opTo_call (w' := wq) (f := 15) (args := #[.agg X.cells]) (by simp [Region.wanted, yielded, e13]) (by simp [go_sem, Act.eval, e14]) ((meta_calls X wq).mono ?_)
          rintro e w' ⟨rfl, hag⟩
          exact ⟨_, by rw [hmeta], (fun h => by cases h), rfl, wi.trans hag⟩
        | 16, _ =>
          refine steps_of rfl ?_
          intro L aq wq hL hd st wi
          obtain ⟨u15, e15, V15⟩ := st.val 15 _ _ rfl rfl (hd ⟨15, .data⟩ (by simp) rfl)
          obtain rfl : .bool false = u15 := V15.symm
          obtain ⟨u13, e13, V13⟩ := st.val 13 _ _ rfl rfl (hd ⟨13, .guard⟩ (by simp) rfl)
          obtain rfl : .bool true = u13 := V13.symm
          exact opTo_val (v := .bool true) (by simp [Region.wanted, yielded, e13]) (by simp [go_sem, Act.eval, e15]) ⟨(fun h => by cases h), rfl, wi⟩
        | 17, _ =>
          refine steps_of rfl ?_
          intro L aq wq hL hd st wi
          obtain ⟨u13, e13, V13⟩ := st.val 13 _ _ rfl rfl (hd ⟨13, .data⟩ (by simp) rfl)
          obtain rfl : .bool true = u13 := V13.symm
          obtain ⟨u16, e16, V16⟩ := st.val 16 _ _ rfl rfl (hd ⟨16, .data⟩ (by simp) rfl)
          obtain rfl : .bool true = u16 := V16.symm
          exact opTo_val (v := .bool true) rfl (by simp [go_sem, Act.eval, e13, e16]) ⟨(fun h => by cases h), rfl, wi⟩
        | 18, _ =>
          refine steps_of rfl ?_
          intro L aq wq hL hd st wi
          obtain ⟨u17, e17, V17⟩ := st.val 17 _ _ rfl rfl (hd ⟨17, .data⟩ (by simp) rfl)
          obtain rfl : .bool true = u17 := V17.symm
          exact opTo_val (v := .bool true) rfl (ex_move (.inl rfl) (eval_tmp e17)) ⟨(fun h => by cases h), rfl, wi⟩
        | 19, _ =>
          refine steps_of rfl ?_
          intro L aq wq hL hd st wi
          obtain ⟨u18, e18, V18⟩ := st.val 18 _ _ rfl rfl (hd ⟨18, .chain⟩ (by simp) rfl)
          obtain rfl : .bool true = u18 := V18.symm
          refine opTo_call (w' := wq) (f := 6) (args := #[]) (by simp [Region.wanted, yielded, e18]) (by simp [go_sem, Act.eval]) ((wakes05_calls wq (hlaid.agrees wi)).mono ?_)
          rintro e w' ⟨rfl, hag⟩
          exact ⟨_, rfl, (fun h => by cases h), rfl, wi.trans hag⟩
        | 20, _ =>
          refine steps_of rfl ?_
          intro L aq wq hL hd st wi
          obtain ⟨u18, e18, V18⟩ := st.val 18 _ _ rfl rfl (hd ⟨18, .data⟩ (by simp) rfl)
          obtain rfl : .bool true = u18 := V18.symm
          obtain ⟨u19, e19, V19⟩ := st.val 19 _ _ rfl rfl (hd ⟨19, .data⟩ (by simp) rfl)
          obtain rfl : .bool true = u19 := V19.symm
          exact opTo_val (v := .bool true) rfl (by simp [go_sem, Act.eval, e18, e19]) ⟨(fun h => by cases h), rfl, wi⟩
        | 21, _ =>
          refine steps_of rfl ?_
          intro L aq wq hL hd st wi
          obtain ⟨u20, e20, V20⟩ := st.val 20 _ _ rfl rfl (hd ⟨20, .data⟩ (by simp) rfl)
          obtain rfl : .bool true = u20 := V20.symm
          exact opTo_val (v := .bool true) rfl (ex_move (.inr rfl) (eval_tmp e20)) ⟨(fun h => by cases h), rfl, wi⟩
        | (i + 22), h => omega
      case hend =>
        intro vals w' hV hW
        have HF := Lib.hid (HA0.out.trans hW)
        have xl : vals 21 = .bool true := hV 21 _ _ rfl rfl
        simp only [putAll, Act.put, List.setIfInBounds_toArray, List.set_cons_succ, List.set_cons_zero, xl]
        clear hV hW hl0  hp0 hpr hgr
        go_wp2_with fail
        go_ret
        exact ⟨rfl, HF.out⟩
    · rw [if_neg h3] at hown
      obtain ⟨va, vc, rfl⟩ : ∃ a c, v = .slice a 0 c := by
        rcases hown.2 with ⟨rfl, _⟩ | ⟨g, cap, cur, rfl, _⟩
        · exact ⟨_, _, rfl⟩
        · exact ⟨_, _, rfl⟩
      have hright : X.right 256 = false := by
        have hf : X.first = false := by
          rw [hX]
          have h3' : (kd == 3) = false := by simpa using h3
          simp [Ptr.first, hM, hmf, h3']
        unfold Ptr.right
        rw [hf]; rfl
      rw [← hcz]
      rw [← hX] at HP1 hx
      have HM := Lib.hid hmeta
      have HRT := Lib.hid hright
      have hkk : kd ≠ 1 ∧ kd ≠ 2 := by simpa using hmf
      clear hown hM hmt hmf hmeta hright
      obtain ⟨hk1, hk2⟩ := hkk
      have hk1e : (kd == 1) = false := by simpa using hk1
      have hk2e : (kd == 2) = false := by simpa using hk2
      have hk3e : (kd == 3) = false := by simpa using h3
      have HX := Lib.hid hx
      clear hk1 hk2 h3 hx hk h0 h1 hb hw0 hw1 hX hcz c1 c2 c3 c4
      go_wp2_with (refine wpList_val rfl (ex_load (ty := 27) rfl isAgg_ptr w.heap.size 0 rfl X.cells rfl (X.load HP1.out)) ?_)
      refine (meta_calls X _).mono ?_
      rintro e W2 ⟨rfl, hag⟩
      rw [HM.out]
      have HP2 := Lib.hid ((hag.block _ (Array.getElem?_eq_some_iff.1 HP1.out).1 trivial).trans HP1.out)
      have HA2 := Lib.hid (HA1.out.trans hag)
      clear hag c0
      go_wp2_with (refine wpList_val rfl (ex_load (ty := 27) rfl isAgg_ptr w.heap.size 0 rfl X.cells rfl (X.load HP2.out)) ?_)
      refine (right_calls X HX.out 256 _).mono ?_
      rintro e W3 ⟨rfl, hag⟩
      rw [HRT.out]
      have HA3 := Lib.hid (HA2.out.trans hag)
      clear hag
      go_wp2_with fail
      refine (wakes05_calls _ (HG.out.agrees HA3.out)).mono ?_
      rintro e W4 ⟨rfl, hag⟩
      have HA4 := Lib.hid (HA3.out.trans hag)
      clear hag
      go_wp2_with fail
      go_ret
      exact ⟨rfl, HA4.out⟩
end Suture
