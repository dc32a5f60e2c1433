/-
  suturelaw05.PtrFits: a pointer that was made of a page fits it, and no page that differs from it within eight bytes that stand side by side.
  Conditions: the widths are where they were laid.
-/
import Derived.Test.YtmkbchhmeaefeaaDoorFitsLaw
import Derived.Test.YtmkbchhmeaefeaaDoorCut
namespace Suture
open Go Go.RowKit Go.Proofs
attribute [local go_sem] Oper.semAt_some

def vFit6 (qb yb k i : Nat) (x z : BitVec 8) : Nat → Value → Prop
  | 0, val => val = .int .i64 (k : Int)
  | 1, val => val = .int .i64 (i : Int)
  | 2, val => val = .int .i64 ((k : Int) + (i : Int))
  | 3, val => val = .int .i64 (k : Int)
  | 4, val => val = .int .i64 (i : Int)
  | 5, val => val = .int .i64 ((k : Int) + (i : Int))
  | 6, val => val = .pointer (some ⟨qb, 0 + (k + i) * 1, none⟩)
  | 7, val => val = B x
  | 8, val => val = .int .i64 (i : Int)
  | 9, val => val = .pointer (some ⟨yb, 0 + i * 1, none⟩)
  | 10, val => val = B z
  | 11, val => val = B (x ^^^ z)
  | 12, val => val = .pointer (some ⟨qb, 0 + (k + i) * 1, none⟩)
  | 13, val => val = undef
  | _, _ => True

def wiFit (W0 W1 : World) (L : Nat → Bool) (_ : Nat → Value) (w : World) : Prop := (L 13 = false → W0 = w) ∧ (L 13 = true → W1 = w)

def vFit7 (a b bi : Int) (p : List (BitVec 8)) (X Y : Ptr) : Nat → Value → Prop
  | 0, val => val = .int .i64 a
  | 1, val => val = .int .i64 b
  | 2, val => val = .int .u32 bi
  | 3, val => val = .agg (pageCells p)
  | 4, val => val = .agg X.cells
  | 5, val => val = .int .i64 a
  | 6, val => val = .int .i64 b
  | 7, val => val = .int .u32 bi
  | 8, val => val = .agg (pageCells p)
  | 9, val => val = .agg Y.cells
  | 10, _ => True
  | 11, _ => True
  | 12, val => val = undef
  | 13, val => val = undef
  | _, _ => True

def vFit8 (xb : Nat) (p q : List (BitVec 8)) (X Y : Ptr) : Nat → Value → Prop
  | 0, val => val = .agg X.cells
  | 1, val => val = .agg (pageCells p)
  | 2, val => val = .bool true
  | 3, val => val = .bool false
  | 4, val => val = .bool false
  | 5, val => val = .agg X.cells
  | 6, val => val = .agg (pageCells q)
  | 7, val => val = .bool (p == q)
  | 8, val => val = .agg (pageCells p)
  | 9, val => val = .agg (pageCells q)
  | 10, val => val = .bool (p == q)
  | 11, val => val = .bool false
  | 12, val => val = .bool false
  | 13, val => val = .bool false
  | 14, val => val = .agg Y.cells
  | 15, val => val = .agg (pageCells q)
  | 16, val => val = .bool (p == q)
  | 17, val => val = .agg (pageCells p)
  | 18, val => val = .agg (pageCells q)
  | 19, val => val = .bool (p == q)
  | 20, val => val = .bool false
  | 21, val => val = .bool false
  | 22, val => val = .bool false
  | 23, val => val = .pointer (some ⟨xb, 0 + 4, none⟩)
  | 24, val => val = U (sum p)
  | 25, val => val = .agg (pageCells p)
  | 26, val => val = U (sum p)
  | 27, val => val = .bool false
  | 28, val => val = .bool false
  | 29, val => val = .bool false
  | 30, val => val = .pointer (some ⟨xb, 0 + 4, none⟩)
  | 31, val => val = U (sum p)
  | 32, val => val = .agg (Ptr.mk 0 0 0 0 (sum p)).cells
  | 33, val => val = .agg (pageCells p)
  | 34, val => val = .bool false
  | 35, val => val = .bool false
  | _, _ => True

set_option maxHeartbeats 4000000 in
set_option maxRecDepth 100000 in
theorem ptrFits_calls (p y : List (BitVec 8)) (ys : Array Value) (at0 a b size bi : Int) (hlp : p.length = 256) (hy : y.length = 8) (hys : ∀ i, i < 8 → ys[i]? = some (B (y.getD i 0)))
    (hbi : 0 ≤ bi ∧ bi ≤ 4294967295) (w : World) (hg : Laid w) :
    Calls Tryd.prog 4 #[.agg (pageCells p), .int .i64 at0, .agg ys, .int .i64 a, .int .i64 b, .int .i64 size, .int .u32 bi] w fun e w' => e = .returned (.bool true) ∧ Agrees All w w' := by
  obtain ⟨k, hk, hat⟩ := turn_of 256 at0 (by omega) (by omega)
  have hat2 : (wrap64 (at0.tmod 256 + 256)).tmod 256 = (k : Int) := hat
  have HG := Lib.hid hg
  clear hg hat
  obtain ⟨W1, hW1⟩ : ∃ W1, (w.alloc (.cells (pageCells p) 37)).alloc (.cells ys 38) = W1 := ⟨_, rfl⟩
  have hA1 : Agrees All w W1 := by rw [← hW1]; exact ((Agrees.refl _ w).alloc _).alloc _
  have hs1 : W1.heap.size = w.heap.size + 1 + 1 := by rw [← hW1]; simp
  have hpr1 : W1.heap[w.heap.size]? = some (.cells (pageCells p) 37 (0, 0)) := by rw [← hW1, heap_alloc_old _ _ (by simp)]; exact World.alloc_heap_new w _
  have hyr1 : W1.heap[w.heap.size + 1]? = some (.cells ys 38 (0, 0)) := by
    rw [← hW1]; have := World.alloc_heap_new (w.alloc (.cells (pageCells p) 37)) (.cells ys 38); rwa [World.size_alloc] at this
  have HA1 := Lib.hid hA1
  have HP1 := Lib.hid hpr1
  have HY1 := Lib.hid hyr1
  have HYS := Lib.hid hys
  have HLP := Lib.hid hlp
  clear hA1 hpr1 hyr1 hys hlp
  go_enter Tryd.func4, Tryd.ntmps4
  refine wp_cut4 (Here (fun (_ : Unit) u => ((.agg (pageCells p) : Value) :: u 1 :: u 2 :: (.int .i64 a : Value) :: (.int .i64 b : Value) :: (.int .i64 size : Value) :: (.int .u32 bi : Value) :: (.pointer (some ⟨w.heap.size, 0, none⟩) : Value) :: u 8 :: u 9 :: u 10 :: u 11 :: u 12 :: u 13 :: u 14 :: (.pointer (some ⟨w.heap.size + 1 + 1, 0, none⟩) : Value) :: u 16 :: u 17 :: u 18 :: u 19 :: u 20 :: u 21 :: u 22 :: u 23 :: u 24 :: u 25 :: u 26 :: u 27 :: u 28 :: u 29 :: u 30 :: u 31 :: u 32 :: u 33 :: u 34 :: u 35 :: u 36 :: u 37 :: u 38 :: u 39 :: u 40 :: u 41 :: u 42 :: u 43 :: u 44 :: u 45 :: u 46 :: u 47 :: u 48 :: u 49 :: u 50 :: u 51 :: u 52 :: u 53 :: u 54 :: u 55 :: u 56 :: u 57 :: u 58 :: u 59 :: u 60 :: u 61 :: u 62 :: u 63 :: u 64 :: u 65 :: u 66 :: u 67 :: u 68 :: u 69 :: u 70 :: u 71 :: u 72 :: u 73 :: u 74 :: u 75 :: u 76 :: u 77 :: u 78 :: u 79 :: u 80 :: u 81 :: u 82 :: u 83 :: u 84 :: u 85 :: u 86 :: u 87 :: u 88 :: u 89 :: u 90 :: u 91 :: u 92 :: u 93 :: u 94 :: u 95 :: u 96 :: u 97 :: u 98 :: u 99 :: u 100 :: u 101 :: u 102 :: u 103 :: u 104 :: u 105 :: u 106 :: u 107 :: u 108 :: u 109 :: u 110 :: u 111 :: u 112 :: u 113 :: u 114 :: u 115 :: u 116 :: u 117 :: u 118 :: u 119 :: u 120 :: u 121 :: u 122 :: u 123 :: u 124 :: u 125 :: u 126 :: u 127 :: u 128 :: u 129 :: u 130 :: u 131 :: u 132 :: u 133 :: u 134 :: u 135 :: u 136 :: u 137 :: u 138 :: u 139 :: u 140 :: u 141 :: u 142 :: u 143 :: u 144 :: u 145 :: u 146 :: u 147 :: u 148 :: u 149 :: u 150 :: u 151 :: u 152 :: u 153 :: u 154 :: []).toArray) (fun _ W => ∃ i : Nat, i ≤ 8 ∧ k + i ≤ 256 ∧ FitW w p y ys k i W)) ?part1 ?part2
  case part1 =>
    intro K1 K2 K3 hK3 hK2 hK1
    obtain ⟨W2, hW2⟩ : ∃ W2, (W1.alloc (.cells (pageCells zeroPage) 37)) = W2 := ⟨_, rfl⟩
    have hqr2 : W2.heap[w.heap.size + 1 + 1]? = some (.cells (pageCells zeroPage) 37 (0, 0)) := by
      rw [← hW2, ← hs1]; exact World.alloc_heap_new W1 _
    have HQ2 := Lib.hid hqr2
    have hF0 : FitW w p y ys k 0 (W2.setRow (w.heap.size + 1 + 1) (pageCells p)) := by
      refine ⟨?_, ?_, ?_, ?_⟩
      · rw [← hW2]; exact (HA1.out.alloc _).setRow (.inr (by omega)) _
      · rw [setRow_other _ _ _ _ (by omega), ← hW2, heap_alloc_old _ _ (by omega)]; exact HP1.out
      · rw [setRow_other _ _ _ _ (by omega), ← hW2, heap_alloc_old _ _ (by omega)]; exact HY1.out
      · rw [setRow_heap _ _ _ _ _ _ hqr2, burst_zero]
    have HF0 := Lib.hid hF0
    clear hqr2 hF0
    go_wp2_with (first | (refine wpList_val rfl (ex_alloc rfl (.agg (pageCells zeroPage)) zero_page) ?_; rw [show (Value.agg (pageCells zeroPage)).cells = pageCells zeroPage from rfl, hW2, hs1]) | (refine wpList_unit rfl (ex_storeAll (ty := 37) (n := 256) rfl isAgg_page.2 (w.heap.size + 1 + 1) rfl (pageCells p) (pageCells zeroPage) rfl (by rw [pageCells_size]; exact HLP.out) HQ2.out (by rw [pageCells_size, zeroPage_len]) (pageCells_one p)) ?_) | refine wpList_val rfl (ex_load (ty := 37) rfl isAgg_page w.heap.size 0 rfl (pageCells p) (by rw [pageCells_size]; exact HLP.out) (fun j _ => by rw [Nat.zero_add]; exact cell_of_row _ _ _ _ _ _ HP1.out)) ?_)
    clear hW1 hW2 HQ2 HP1 HY1 HA1 hs1
    go_loopw [16] (fun ii wr => ∃ i : Nat, i ≤ 8 ∧ k + i ≤ 256 ∧ ii = .int .i64 i ∧ RowKit.Hid (FitW w p y ys k i wr)) (fun ii _ => 8 - (intOf ii).toNat)
    case atStart => exact ⟨0, by omega, by omega, rfl, HF0⟩
    case round =>
      obtain ⟨i, hi8', hki', rfl, HW⟩ := hrel
      clear HF0
      by_cases hlt : i < 8 ∧ k + i < 256
      · obtain ⟨hi8, hki⟩ := hlt
        have HC := Lib.hid (HW.out.drew.qcell (by omega) (by rw [HLP.out]; exact hki))
        have HCB := Lib.hid (HW.out.drew.ycell HYS.out hi8)
        have HF := Lib.hid (frozen_of_row _ _ (0 + (k + i) * 1) _ _ HW.out.drew.qrow)
        have HS := Lib.hid (HW.out.drew.step (by omega) (by rw [HLP.out]; exact hki))
        generalize hx : p.getD (k + i) 0 = x at *
        generalize hz : y.getD i 0 = z at *
        clear hx hz
        go_wp2_with fail
        obtain ⟨W0, hW0⟩ : ∃ W0, wr.drew = W0 := ⟨_, rfl⟩
        rw [hW0] at HC HCB HF HS
        have hcell := HC.out
        have hcellb := HCB.out
        have hfro := HF.out
        refine wp_region_plan (by kernel_rfl) ?hok (by kernel_rfl) (vFit6 (w.heap.size + 1 + 1) (w.heap.size + 1) k i x z) (wiFit W0 (W0.setCell ⟨w.heap.size + 1 + 1, 0 + (k + i) * 1, none⟩ (B (x ^^^ z)))) ?h0 ?steps ?hend
        case hok => kernel_rfl
        case h0 => exact fun vals => ⟨fun _ => hW0.symm, fun h => (by cases h)⟩
        case steps =>
          generalize w.heap.size + 1 + 1 = qb at *
          generalize w.heap.size + 1 = yb at *
          intro q hq
          have hq' : q < 14 := hq
          match q, hq' with
          | 0, _ =>
            refine steps_of rfl ?_
            intro L aq wq hL hd st wi
            have o1 := st.outside (t := 1) rfl (v := .int .i64 (k : Int)) rfl
            exact opTo_val (v := .int .i64 (k : Int)) rfl (ex_move (.inl rfl) (eval_tmp o1)) ⟨(fun h => by cases h), rfl, wi⟩
          | 1, _ =>
            refine steps_of rfl ?_
            intro L aq wq hL hd st wi
            have o16 := st.outside (t := 16) rfl (v := .int .i64 (i : Int)) rfl
            exact opTo_val (v := .int .i64 (i : Int)) rfl (ex_move (.inl rfl) (eval_tmp o16)) ⟨(fun h => by cases h), rfl, wi⟩
          | 2, _ =>
            refine steps_of rfl ?_
            intro L aq wq hL hd st wi
            obtain ⟨u0, e0, V0⟩ := st.val 0 _ _ rfl rfl (hd ⟨0, .data⟩ (by simp) rfl)
            obtain rfl : .int .i64 (k : Int) = u0 := V0.symm
            obtain ⟨u1, e1, V1⟩ := st.val 1 _ _ rfl rfl (hd ⟨1, .data⟩ (by simp) rfl)
            obtain rfl : .int .i64 (i : Int) = u1 := V1.symm
            exact opTo_val (v := .int .i64 ((k : Int) + (i : Int))) rfl (by have hk2 := hk; have hi2 := hi8; simp [go_sem, Act.eval, e0, e1]; rw [IntKind.wrap_i64]; omega) ⟨(fun h => by cases h), rfl, wi⟩
          | 3, _ =>
            refine steps_of rfl ?_
            intro L aq wq hL hd st wi
            have o1 := st.outside (t := 1) rfl (v := .int .i64 (k : Int)) rfl
            exact opTo_val (v := .int .i64 (k : Int)) rfl (ex_move (.inl rfl) (eval_tmp o1)) ⟨(fun h => by cases h), rfl, wi⟩
          | 4, _ =>
            refine steps_of rfl ?_
            intro L aq wq hL hd st wi
            have o16 := st.outside (t := 16) rfl (v := .int .i64 (i : Int)) rfl
            exact opTo_val (v := .int .i64 (i : Int)) rfl (ex_move (.inl rfl) (eval_tmp o16)) ⟨(fun h => by cases h), rfl, wi⟩
          | 5, _ =>
            refine steps_of rfl ?_
            intro L aq wq hL hd st wi
            obtain ⟨u3, e3, V3⟩ := st.val 3 _ _ rfl rfl (hd ⟨3, .data⟩ (by simp) rfl)
            obtain rfl : .int .i64 (k : Int) = u3 := V3.symm
            obtain ⟨u4, e4, V4⟩ := st.val 4 _ _ rfl rfl (hd ⟨4, .data⟩ (by simp) rfl)
            obtain rfl : .int .i64 (i : Int) = u4 := V4.symm
            exact opTo_val (v := .int .i64 ((k : Int) + (i : Int))) rfl (by have hk2 := hk; have hi2 := hi8; simp [go_sem, Act.eval, e3, e4]; rw [IntKind.wrap_i64]; omega) ⟨(fun h => by cases h), rfl, wi⟩
          | 6, _ =>
            refine steps_of rfl ?_
            intro L aq wq hL hd st wi
            have o15 := st.outside (t := 15) rfl (v := .pointer (some ⟨qb, 0, none⟩)) rfl
            obtain ⟨u5, e5, V5⟩ := st.val 5 _ _ rfl rfl (hd ⟨5, .data⟩ (by simp) rfl)
            obtain rfl : .int .i64 ((k : Int) + (i : Int)) = u5 := V5.symm
            exact opTo_val (v := .pointer (some ⟨qb, 0 + (k + i) * 1, none⟩)) rfl (ex_idxArr rfl Tryd.underlying37 (by kernel_rfl) qb 0 (k + i) (eval_tmp o15) (by rw [eval_tmp e5]; simp) hki) ⟨(fun h => by cases h), rfl, wi⟩
          | 7, _ =>
            refine steps_of rfl ?_
            intro L aq wq hL hd st wi
            obtain ⟨u6, e6, V6⟩ := st.val 6 _ _ rfl rfl (hd ⟨6, .data⟩ (by simp) rfl)
            obtain rfl : .pointer (some ⟨qb, 0 + (k + i) * 1, none⟩) = u6 := V6.symm
            have h13 : L 13 = false := by
              cases h : L 13
              · rfl
              · have := st.closed 13 _ rfl h ⟨7, .phase⟩ (by simp) rfl
                rw [hL] at this; cases this
            refine opTo_val (v := B x) rfl (ex_load1 rfl oneU8 (eval_tmp e6) ?_) ⟨(fun h => by cases h), rfl, wi⟩
            rw [← wi.1 h13]; exact hcell
          | 8, _ =>
            refine steps_of rfl ?_
            intro L aq wq hL hd st wi
            have o16 := st.outside (t := 16) rfl (v := .int .i64 (i : Int)) rfl
            exact opTo_val (v := .int .i64 (i : Int)) rfl (ex_move (.inl rfl) (eval_tmp o16)) ⟨(fun h => by cases h), rfl, wi⟩
          | 9, _ =>
            refine steps_of rfl ?_
            intro L aq wq hL hd st wi
            have o9 := st.outside (t := 9) rfl (v := .pointer (some ⟨yb, 0, none⟩)) rfl
            obtain ⟨u8, e8, V8⟩ := st.val 8 _ _ rfl rfl (hd ⟨8, .data⟩ (by simp) rfl)
            obtain rfl : .int .i64 (i : Int) = u8 := V8.symm
            exact opTo_val (v := .pointer (some ⟨yb, 0 + i * 1, none⟩)) rfl (ex_idxArr rfl Tryd.underlying38 (by kernel_rfl) yb 0 i (eval_tmp o9) (eval_tmp e8) hi8) ⟨(fun h => by cases h), rfl, wi⟩
          | 10, _ =>
            refine steps_of rfl ?_
            intro L aq wq hL hd st wi
            obtain ⟨u9, e9, V9⟩ := st.val 9 _ _ rfl rfl (hd ⟨9, .data⟩ (by simp) rfl)
            obtain rfl : .pointer (some ⟨yb, 0 + i * 1, none⟩) = u9 := V9.symm
            have h13 : L 13 = false := by
              cases h : L 13
              · rfl
              · have := st.closed 13 _ rfl h ⟨10, .phase⟩ (by simp) rfl
                rw [hL] at this; cases this
            refine opTo_val (v := B z) rfl (ex_load1 rfl oneU8 (eval_tmp e9) ?_) ⟨(fun h => by cases h), rfl, wi⟩
            rw [← wi.1 h13]; exact hcellb
          | 11, _ =>
            refine steps_of rfl ?_
            intro L aq wq hL hd st wi
            obtain ⟨u7, e7, V7⟩ := st.val 7 _ _ rfl rfl (hd ⟨7, .data⟩ (by simp) rfl)
            obtain rfl : B x = u7 := V7.symm
            obtain ⟨u10, e10, V10⟩ := st.val 10 _ _ rfl rfl (hd ⟨10, .data⟩ (by simp) rfl)
            obtain rfl : B z = u10 := V10.symm
            exact opTo_val (v := B (x ^^^ z)) rfl (by simp [go_sem, Act.eval, e7, e10]) ⟨(fun h => by cases h), rfl, wi⟩
          | 12, _ =>
            refine steps_of rfl ?_
            intro L aq wq hL hd st wi
            have o15 := st.outside (t := 15) rfl (v := .pointer (some ⟨qb, 0, none⟩)) rfl
            obtain ⟨u2, e2, V2⟩ := st.val 2 _ _ rfl rfl (hd ⟨2, .data⟩ (by simp) rfl)
            obtain rfl : .int .i64 ((k : Int) + (i : Int)) = u2 := V2.symm
            exact opTo_val (v := .pointer (some ⟨qb, 0 + (k + i) * 1, none⟩)) rfl (ex_idxArr rfl Tryd.underlying37 (by kernel_rfl) qb 0 (k + i) (eval_tmp o15) (by rw [eval_tmp e2]; simp) hki) ⟨(fun h => by cases h), rfl, wi⟩
          | 13, _ =>
            refine steps_of rfl ?_
            intro L aq wq hL hd st wi
            obtain ⟨u12, e12, V12⟩ := st.val 12 _ _ rfl rfl (hd ⟨12, .data⟩ (by simp) rfl)
            obtain rfl : .pointer (some ⟨qb, 0 + (k + i) * 1, none⟩) = u12 := V12.symm
            obtain ⟨u11, e11, V11⟩ := st.val 11 _ _ rfl rfl (hd ⟨11, .data⟩ (by simp) rfl)
            obtain rfl : B (x ^^^ z) = u11 := V11.symm
            have e := wi.1 hL
            subst e
            refine opTo_skip rfl (ex_store1 rfl oneU8 (eval_tmp e12) (eval_tmp e11) hcell hfro rfl) ⟨fun _ => rfl, rfl, ?_, ?_⟩
            · intro h; simp [setL] at h
            · intro _; rfl
          | (q + 14), h => omega
        case hend =>
          intro vals w' hV hW
          have hw' := hW.2 rfl
          simp only [putAll, Act.put, List.setIfInBounds_toArray, List.set_cons_succ, List.set_cons_zero]
          rw [hw'] at HS
          clear hV hW hcell hcellb hfro HC HCB HF hw' hW0
          go_wp2_with fail
          exact ⟨⟨i + 1, by omega, by omega, by simp, HS⟩, by simp [intOf]; omega⟩
      · have HWF := Lib.hid (show ∃ i : Nat, i ≤ 8 ∧ k + i ≤ 256 ∧ FitW w p y ys k i wr from ⟨i, hi8', hki', HW.out⟩)
        clear HW
        go_wp2_with fail
        all_goals
          exact here_of () (by kernel_rfl) rfl HWF.out
  case part2 =>
    rintro a' wr ⟨_, u, rfl, i, hi8', hki', HW0⟩
    have HQL := Lib.hid (burst_length p y k i (by omega) (by rw [HLP.out]; exact hki'))
    have HQE := Lib.hid (burst_sum p y k i (by omega) hi8' (by rw [HLP.out]; exact hki'))
    obtain ⟨q, hq⟩ : ∃ q, burst p y k i = q := ⟨_, rfl⟩
    have HPR := Lib.hid HW0.prow
    have HQR := Lib.hid HW0.qrow
    have HA := Lib.hid HW0.ag
    rw [hq] at HQL HQE HQR
    clear HW0 hq hW1 HA1 HP1 HY1 hs1 HYS hat2
    refine wp_cut3 (Here (fun (xy : Nat × Nat) u => (u 0 :: u 1 :: u 2 :: (.int .i64 a : Value) :: (.int .i64 b : Value) :: (.int .i64 size : Value) :: (.int .u32 bi : Value) :: u 7 :: u 8 :: u 9 :: u 10 :: u 11 :: u 12 :: u 13 :: u 14 :: u 15 :: u 16 :: (.pointer (some ⟨xy.1, 0, none⟩) : Value) :: (.pointer (some ⟨xy.2, 0, none⟩) : Value) :: u 19 :: u 20 :: u 21 :: u 22 :: u 23 :: u 24 :: u 25 :: u 26 :: u 27 :: u 28 :: u 29 :: u 30 :: u 31 :: u 32 :: u 33 :: u 34 :: u 35 :: u 36 :: u 37 :: u 38 :: u 39 :: u 40 :: u 41 :: u 42 :: u 43 :: u 44 :: u 45 :: u 46 :: u 47 :: u 48 :: u 49 :: u 50 :: u 51 :: u 52 :: u 53 :: u 54 :: u 55 :: u 56 :: u 57 :: u 58 :: u 59 :: u 60 :: u 61 :: u 62 :: u 63 :: u 64 :: u 65 :: u 66 :: u 67 :: u 68 :: u 69 :: u 70 :: u 71 :: u 72 :: u 73 :: u 74 :: u 75 :: u 76 :: u 77 :: u 78 :: u 79 :: u 80 :: u 81 :: u 82 :: u 83 :: u 84 :: u 85 :: u 86 :: u 87 :: u 88 :: u 89 :: u 90 :: u 91 :: u 92 :: u 93 :: u 94 :: u 95 :: u 96 :: u 97 :: u 98 :: u 99 :: u 100 :: u 101 :: u 102 :: u 103 :: u 104 :: u 105 :: u 106 :: u 107 :: u 108 :: u 109 :: u 110 :: u 111 :: u 112 :: u 113 :: u 114 :: u 115 :: u 116 :: u 117 :: u 118 :: u 119 :: u 120 :: u 121 :: u 122 :: u 123 :: u 124 :: u 125 :: u 126 :: u 127 :: u 128 :: u 129 :: u 130 :: u 131 :: u 132 :: u 133 :: u 134 :: u 135 :: u 136 :: u 137 :: u 138 :: u 139 :: u 140 :: u 141 :: u 142 :: u 143 :: u 144 :: u 145 :: u 146 :: u 147 :: u 148 :: u 149 :: u 150 :: u 151 :: u 152 :: u 153 :: u 154 :: []).toArray) (fun xy W => (W.heap[xy.1]? = some (.cells (ptrOf 2 a b bi p).cells 27 (0, 0)) ∧ W.heap[xy.2]? = some (.cells (ptrOf 3 a b bi p).cells 27 (0, 0))) ∧ (0 ≤ a ∧ 0 ≤ b ∧ a ≤ 60000 ∧ b ≤ 60000) ∧ Agrees All w W)) ?part3 ?part4
    case part3 =>
      intro K1 K2 hK2 hK1
      go_wp2_with fail
      obtain ⟨X, hX⟩ : ∃ X, X = ptrOf 2 a b bi p := ⟨_, rfl⟩
      obtain ⟨Y, hY⟩ : ∃ Y, Y = ptrOf 3 a b bi p := ⟨_, rfl⟩
      have HX := Lib.hid hX
      have HY := Lib.hid hY
      clear hX hY
      obtain ⟨W0, hW0⟩ : ∃ W0, wr.drew = W0 := ⟨_, rfl⟩
      have hpr : W0.heap[w.heap.size]? = some (.cells (pageCells p) 37 (0, 0)) := by rw [← hW0]; exact HPR.out
      have hqr0 : W0.heap[w.heap.size + 1 + 1]? = some (.cells (pageCells q) 37 (0, 0)) := by rw [← hW0]; exact HQR.out
      have HA0 := Lib.hid (show Agrees All w W0 by rw [← hW0]; exact HA.out.drew)
      have HQ0 := Lib.hid hqr0
      clear hqr0 HPR HQR HA
      refine wp_region_plan (by kernel_rfl) ?hok7 (by kernel_rfl) (vFit7 a b bi p X Y) (Boxed W0 [⟨10, 12, 27, Ptr.zero.cells, X.cells⟩, ⟨11, 13, 27, Ptr.zero.cells, Y.cells⟩]) ?h07 (fun i hi => ?steps7) ?hend7
      case hok7 => kernel_rfl
      case h07 => exact fun vals => by rw [← hW0]; exact Boxed.start
      case steps7 =>
        have hlp := HLP.out
        generalize w.heap.size = pb at *
        have hi' : i < 14 := hi
        match i, hi' with
        | 0, _ =>
          refine steps_of rfl ?_
          intro L aq wq hL hd st wi
          have o3 := st.outside (t := 3) rfl (v := .int .i64 a) rfl
          exact opTo_val (v := .int .i64 a) rfl (ex_move (.inl rfl) (eval_tmp o3)) ⟨(fun h => by cases h), rfl, wi.other rfl _⟩
        | 1, _ =>
          refine steps_of rfl ?_
          intro L aq wq hL hd st wi
          have o4 := st.outside (t := 4) rfl (v := .int .i64 b) rfl
          exact opTo_val (v := .int .i64 b) rfl (ex_move (.inl rfl) (eval_tmp o4)) ⟨(fun h => by cases h), rfl, wi.other rfl _⟩
        | 2, _ =>
          refine steps_of rfl ?_
          intro L aq wq hL hd st wi
          have o6 := st.outside (t := 6) rfl (v := .int .u32 bi) rfl
          exact opTo_val (v := .int .u32 bi) rfl (ex_move (.inl rfl) (eval_tmp o6)) ⟨(fun h => by cases h), rfl, wi.other rfl _⟩
        | 3, _ =>
          refine steps_of rfl ?_
          intro L aq wq hL hd st wi
          have o7 := st.outside (t := 7) rfl (v := .pointer (some ⟨pb, 0, none⟩)) rfl
          exact opTo_val (v := .agg (pageCells p)) rfl (ex_load rfl isAgg_page pb 0 (eval_tmp o7) (pageCells p) (by rw [pageCells_size]; exact hlp) (fun j _ => by rw [Nat.zero_add]; exact cell_of_row _ _ _ _ _ _ ((wi.ag.block _ (Array.getElem?_eq_some_iff.1 hpr).1 trivial).trans hpr))) ⟨(fun h => by cases h), rfl, wi.other rfl _⟩
        | 4, _ =>
          refine steps_of rfl ?_
          intro L aq wq hL hd st wi
          obtain ⟨u0, e0, V0⟩ := st.val 0 _ _ rfl rfl (hd ⟨0, .data⟩ (by simp) rfl)
          obtain rfl : .int .i64 a = u0 := V0.symm
          obtain ⟨u1, e1, V1⟩ := st.val 1 _ _ rfl rfl (hd ⟨1, .data⟩ (by simp) rfl)
          obtain rfl : .int .i64 b = u1 := V1.symm
          obtain ⟨u2, e2, V2⟩ := st.val 2 _ _ rfl rfl (hd ⟨2, .data⟩ (by simp) rfl)
          obtain rfl : .int .u32 bi = u2 := V2.symm
          obtain ⟨u3, e3, V3⟩ := st.val 3 _ _ rfl rfl (hd ⟨3, .data⟩ (by simp) rfl)
          obtain rfl : .agg (pageCells p) = u3 := V3.symm
          refine opTo_call (w' := wq) (f := 10) (args := #[.int .u8 2, .int .i64 a, .int .i64 b, .int .u32 bi, .agg (pageCells p)]) rfl (by simp [go_sem, Act.eval, e0, e1, e2, e3]) ((of_calls 2 a b bi p hlp wq).mono ?_)
          rintro e w' ⟨rfl, hag⟩
          exact ⟨_, rfl, (fun h => by cases h), by rw [HX.out]; rfl, (wi.mono hag).other rfl _⟩
        | 5, _ =>
          refine steps_of rfl ?_
          intro L aq wq hL hd st wi
          have o3 := st.outside (t := 3) rfl (v := .int .i64 a) rfl
          exact opTo_val (v := .int .i64 a) rfl (ex_move (.inl rfl) (eval_tmp o3)) ⟨(fun h => by cases h), rfl, wi.other rfl _⟩
        | 6, _ =>
          refine steps_of rfl ?_
          intro L aq wq hL hd st wi
          have o4 := st.outside (t := 4) rfl (v := .int .i64 b) rfl
          exact opTo_val (v := .int .i64 b) rfl (ex_move (.inl rfl) (eval_tmp o4)) ⟨(fun h => by cases h), rfl, wi.other rfl _⟩
        | 7, _ =>
          refine steps_of rfl ?_
          intro L aq wq hL hd st wi
          have o6 := st.outside (t := 6) rfl (v := .int .u32 bi) rfl
          exact opTo_val (v := .int .u32 bi) rfl (ex_move (.inl rfl) (eval_tmp o6)) ⟨(fun h => by cases h), rfl, wi.other rfl _⟩
        | 8, _ =>
          refine steps_of rfl ?_
          intro L aq wq hL hd st wi
          have o7 := st.outside (t := 7) rfl (v := .pointer (some ⟨pb, 0, none⟩)) rfl
          exact opTo_val (v := .agg (pageCells p)) rfl (ex_load rfl isAgg_page pb 0 (eval_tmp o7) (pageCells p) (by rw [pageCells_size]; exact hlp) (fun j _ => by rw [Nat.zero_add]; exact cell_of_row _ _ _ _ _ _ ((wi.ag.block _ (Array.getElem?_eq_some_iff.1 hpr).1 trivial).trans hpr))) ⟨(fun h => by cases h), rfl, wi.other rfl _⟩
        | 9, _ =>
          refine steps_of rfl ?_
          intro L aq wq hL hd st wi
          obtain ⟨u5, e5, V5⟩ := st.val 5 _ _ rfl rfl (hd ⟨5, .data⟩ (by simp) rfl)
          obtain rfl : .int .i64 a = u5 := V5.symm
          obtain ⟨u6, e6, V6⟩ := st.val 6 _ _ rfl rfl (hd ⟨6, .data⟩ (by simp) rfl)
          obtain rfl : .int .i64 b = u6 := V6.symm
          obtain ⟨u7, e7, V7⟩ := st.val 7 _ _ rfl rfl (hd ⟨7, .data⟩ (by simp) rfl)
          obtain rfl : .int .u32 bi = u7 := V7.symm
          obtain ⟨u8, e8, V8⟩ := st.val 8 _ _ rfl rfl (hd ⟨8, .data⟩ (by simp) rfl)
          obtain rfl : .agg (pageCells p) = u8 := V8.symm
          refine opTo_call (w' := wq) (f := 10) (args := #[.int .u8 3, .int .i64 a, .int .i64 b, .int .u32 bi, .agg (pageCells p)]) rfl (by simp [go_sem, Act.eval, e5, e6, e7, e8]) ((of_calls 3 a b bi p hlp wq).mono ?_)
          rintro e w' ⟨rfl, hag⟩
          exact ⟨_, rfl, (fun h => by cases h), by rw [HY.out]; rfl, (wi.mono hag).other rfl _⟩
        | 10, _ =>
          refine steps_of rfl ?_
          intro L aq wq hL hd st wi
          have hs12 : L 12 = false := by
            cases h : L 12
            · rfl
            · have := st.closed 12 _ rfl h ⟨10, .data⟩ (by simp) rfl
              rw [hL] at this; cases this
          exact opTo_val (v := .pointer (some ⟨wq.heap.size, 0, none⟩)) (w' := wq.alloc (.cells Ptr.zero.cells 27)) rfl (ex_alloc rfl (.agg Ptr.zero.cells) (fun w => by simp [go_sem]; rfl)) ⟨(fun h => by cases h), trivial, wi.alloc (x := ⟨10, 12, 27, Ptr.zero.cells, X.cells⟩) rfl (by simp) (by intro y hy; simp at hy; rcases hy with rfl | rfl <;> simp) hs12 hL⟩
        | 11, _ =>
          refine steps_of rfl ?_
          intro L aq wq hL hd st wi
          have hs13 : L 13 = false := by
            cases h : L 13
            · rfl
            · have := st.closed 13 _ rfl h ⟨11, .data⟩ (by simp) rfl
              rw [hL] at this; cases this
          exact opTo_val (v := .pointer (some ⟨wq.heap.size, 0, none⟩)) (w' := wq.alloc (.cells Ptr.zero.cells 27)) rfl (ex_alloc rfl (.agg Ptr.zero.cells) (fun w => by simp [go_sem]; rfl)) ⟨(fun h => by cases h), trivial, wi.alloc (x := ⟨11, 13, 27, Ptr.zero.cells, Y.cells⟩) rfl (by simp) (by intro y hy; simp at hy; rcases hy with rfl | rfl <;> simp) hs13 hL⟩
        | 12, _ =>
          refine steps_of rfl ?_
          intro L aq wq hL hd st wi
          obtain ⟨u10, e10, V10⟩ := st.val 10 _ _ rfl rfl (hd ⟨10, .data⟩ (by simp) rfl)
          obtain ⟨u4, e4, V4⟩ := st.val 4 _ _ rfl rfl (hd ⟨4, .data⟩ (by simp) rfl)
          obtain rfl : .agg X.cells = u4 := V4.symm
          have hLa := hd ⟨10, .data⟩ (by simp) rfl
          obtain ⟨b, hb, hlo, hrow⟩ := wi.row ⟨10, 12, 27, Ptr.zero.cells, X.cells⟩ (by simp) hLa
          rw [slotV_val rfl rfl e10] at hb
          obtain rfl := hb
          rw [show (Box.mk 10 12 27 Ptr.zero.cells X.cells).now L = Ptr.zero.cells by unfold Box.now; rw [hL]; rfl] at hrow
          refine opTo_skip rfl (ex_storeAll rfl isAgg_ptr.2 b (eval_tmp e10) X.cells Ptr.zero.cells (eval_tmp e4) rfl hrow rfl X.one) ⟨fun _ => rfl, rfl, ?_⟩
          exact wi.store (x := ⟨10, 12, 27, Ptr.zero.cells, X.cells⟩) rfl (by simp) (by intro y hy; simp at hy; rcases hy with rfl | rfl <;> simp) (by intro y hy; simp at hy; rcases hy with rfl | rfl <;> simp) hLa (slotV_val rfl rfl e10)
        | 13, _ =>
          refine steps_of rfl ?_
          intro L aq wq hL hd st wi
          obtain ⟨u11, e11, V11⟩ := st.val 11 _ _ rfl rfl (hd ⟨11, .data⟩ (by simp) rfl)
          obtain ⟨u9, e9, V9⟩ := st.val 9 _ _ rfl rfl (hd ⟨9, .data⟩ (by simp) rfl)
          obtain rfl : .agg Y.cells = u9 := V9.symm
          have hLa := hd ⟨11, .data⟩ (by simp) rfl
          obtain ⟨b, hb, hlo, hrow⟩ := wi.row ⟨11, 13, 27, Ptr.zero.cells, Y.cells⟩ (by simp) hLa
          rw [slotV_val rfl rfl e11] at hb
          obtain rfl := hb
          rw [show (Box.mk 11 13 27 Ptr.zero.cells Y.cells).now L = Ptr.zero.cells by unfold Box.now; rw [hL]; rfl] at hrow
          refine opTo_skip rfl (ex_storeAll rfl isAgg_ptr.2 b (eval_tmp e11) Y.cells Ptr.zero.cells (eval_tmp e9) rfl hrow rfl Y.one) ⟨fun _ => rfl, rfl, ?_⟩
          exact wi.store (x := ⟨11, 13, 27, Ptr.zero.cells, Y.cells⟩) rfl (by simp) (by intro y hy; simp at hy; rcases hy with rfl | rfl <;> simp) (by intro y hy; simp at hy; rcases hy with rfl | rfl <;> simp) hLa (slotV_val rfl rfl e11)
        | (i + 14), h => omega
      case hend7 =>
        intro vals w' hV hW
        obtain ⟨xb, hx10, _, hxr⟩ := hW.row ⟨10, 12, 27, Ptr.zero.cells, X.cells⟩ (by simp) rfl
        obtain ⟨yb, hx11, _, hyr⟩ := hW.row ⟨11, 13, 27, Ptr.zero.cells, Y.cells⟩ (by simp) rfl
        have hxr' : w'.heap[xb]? = some (.cells X.cells 27 (0, 0)) := hxr
        have hyr' : w'.heap[yb]? = some (.cells Y.cells 27 (0, 0)) := hyr
        have hx10' : vals 10 = .pointer (some ⟨xb, 0, none⟩) := hx10
        have hx11' : vals 11 = .pointer (some ⟨yb, 0, none⟩) := hx11
        have HAW := Lib.hid hW.ag
        have HXR := Lib.hid hxr'
        have HYR := Lib.hid hyr'
        have HPR := Lib.hid hpr
        simp only [putAll, Act.put, List.setIfInBounds_toArray, List.set_cons_succ, List.set_cons_zero, hx10', hx11']
        clear hV hW hx10 hx11 hx10' hx11' hxr hyr hxr' hyr' hpr hW0
        go_wp2_with fail
        obtain ⟨W8, hW8⟩ : ∃ W8, w'.drew = W8 := ⟨_, rfl⟩
        have HA8 := Lib.hid (show Agrees All w W8 by rw [← hW8]; exact HA0.out.trans HAW.out.drew)
        have hpr : W8.heap[w.heap.size]? = some (.cells (pageCells p) 37 (0, 0)) := by
          rw [← hW8]; exact (HAW.out.drew.block _ (Array.getElem?_eq_some_iff.1 HPR.out).1 trivial).trans HPR.out
        have hqr : W8.heap[w.heap.size + 1 + 1]? = some (.cells (pageCells q) 37 (0, 0)) := by
          rw [← hW8]; exact (HAW.out.drew.block _ (Array.getElem?_eq_some_iff.1 HQ0.out).1 trivial).trans HQ0.out
        have hxr : W8.heap[xb]? = some (.cells X.cells 27 (0, 0)) := by rw [← hW8]; exact HXR.out
        have hyr : W8.heap[yb]? = some (.cells Y.cells 27 (0, 0)) := by rw [← hW8]; exact HYR.out
        have HXR8 := Lib.hid hxr
        have HYR8 := Lib.hid hyr
        have HXS := Lib.hid (show X.su = sum p by rw [HX.out]; rfl)
        have HF1 := Lib.hid (show X.fits p = true by rw [HX.out]; simp [Ptr.fits, ptrOf])
        have HF2 := Lib.hid (show X.fits q = (p == q) by rw [HX.out]; simp only [Ptr.fits, ptrOf, HQE.out]; rfl)
        have HF3 := Lib.hid (show Y.fits q = (p == q) by rw [HY.out]; simp only [Ptr.fits, ptrOf, HQE.out]; rfl)
        clear HXR HYR HPR HQ0 HA0 HAW
        refine wp_region_plan (by kernel_rfl) ?hok8 (by kernel_rfl) (vFit8 xb p q X Y) (fun _ _ W => Agrees All W8 W) ?h08 (fun i hi => ?steps8) ?hend8
        case hok8 => kernel_rfl
        case h08 => exact fun vals => by rw [hW8]; exact Agrees.refl _ _
        case steps8 =>
          have hlp := HLP.out
          have hlq : q.length = 256 := by rw [HQL.out]; exact hlp
          have hf1 := HF1.out
          have hf2 := HF2.out
          have hf3 := HF3.out
          have hxs := HXS.out
          generalize w.heap.size + 1 + 1 = qb at *
          generalize w.heap.size = pb at *
          have hi' : i < 36 := hi
          match i, hi' with
          | 0, _ =>
            refine steps_of rfl ?_
            intro L aq wq hL hd st wi
            have o17 := st.outside (t := 17) rfl (v := .pointer (some ⟨xb, 0, none⟩)) rfl
            exact opTo_val (v := .agg X.cells) rfl (ex_load rfl isAgg_ptr xb 0 (eval_tmp o17) X.cells rfl (X.load ((wi.block _ (Array.getElem?_eq_some_iff.1 hxr).1 trivial).trans hxr))) ⟨(fun h => by cases h), rfl, wi⟩
          | 1, _ =>
            refine steps_of rfl ?_
            intro L aq wq hL hd st wi
            have o7 := st.outside (t := 7) rfl (v := .pointer (some ⟨pb, 0, none⟩)) rfl
            exact opTo_val (v := .agg (pageCells p)) rfl (ex_load rfl isAgg_page pb 0 (eval_tmp o7) (pageCells p) (by rw [pageCells_size]; exact hlp) (fun j _ => by rw [Nat.zero_add]; exact cell_of_row _ _ _ _ _ _ ((wi.block _ (Array.getElem?_eq_some_iff.1 hpr).1 trivial).trans hpr))) ⟨(fun h => by cases h), rfl, wi⟩
          | 2, _ =>
            refine steps_of rfl ?_
            intro L aq wq hL hd st wi
            obtain ⟨u0, e0, V0⟩ := st.val 0 _ _ rfl rfl (hd ⟨0, .data⟩ (by simp) rfl)
            obtain rfl : .agg X.cells = u0 := V0.symm
            obtain ⟨u1, e1, V1⟩ := st.val 1 _ _ rfl rfl (hd ⟨1, .data⟩ (by simp) rfl)
            obtain rfl : .agg (pageCells p) = u1 := V1.symm
            refine opTo_call (w' := wq) (f := 11) (args := #[.agg X.cells, .agg (pageCells p)]) rfl (by simp [go_sem, Act.eval, e0, e1]) ((fits_calls X p hlp wq).mono ?_)
            rintro e w' ⟨rfl, hag⟩
            exact ⟨_, by rw [hf1], (fun h => by cases h), rfl, wi.trans hag⟩
          | 3, _ =>
            refine steps_of rfl ?_
            intro L aq wq hL hd st wi
            obtain ⟨u2, e2, V2⟩ := st.val 2 _ _ rfl rfl (hd ⟨2, .data⟩ (by simp) rfl)
            obtain rfl : .bool true = u2 := V2.symm
            exact opTo_val (v := .bool false) rfl (by simp [go_sem, Act.eval, e2]) ⟨(fun h => by cases h), rfl, wi⟩
          | 4, _ =>
            refine steps_of rfl ?_
            intro L aq wq hL hd st wi
            obtain ⟨u3, e3, V3⟩ := st.val 3 _ _ rfl rfl (hd ⟨3, .data⟩ (by simp) rfl)
            obtain rfl : .bool false = u3 := V3.symm
            exact opTo_val (v := .bool false) rfl (ex_move (.inl rfl) (eval_tmp e3)) ⟨(fun h => by cases h), rfl, wi⟩
          | 5, _ =>
            refine steps_of rfl ?_
            intro L aq wq hL hd st wi
            have o17 := st.outside (t := 17) rfl (v := .pointer (some ⟨xb, 0, none⟩)) rfl
            obtain ⟨u4, e4, V4⟩ := st.val 4 _ _ rfl rfl (hd ⟨4, .guard⟩ (by simp) rfl)
            obtain rfl : .bool false = u4 := V4.symm
            exact opTo_val (v := .agg X.cells) (by simp [Region.wanted, yielded, e4]) (ex_load rfl isAgg_ptr xb 0 (eval_tmp o17) X.cells rfl (X.load ((wi.block _ (Array.getElem?_eq_some_iff.1 hxr).1 trivial).trans hxr))) ⟨(fun h => by cases h), rfl, wi⟩
          | 6, _ =>
            refine steps_of rfl ?_
            intro L aq wq hL hd st wi
            have o15 := st.outside (t := 15) rfl (v := .pointer (some ⟨qb, 0, none⟩)) rfl
            obtain ⟨u4, e4, V4⟩ := st.val 4 _ _ rfl rfl (hd ⟨4, .guard⟩ (by simp) rfl)
            obtain rfl : .bool false = u4 := V4.symm
            exact opTo_val (v := .agg (pageCells q)) (by simp [Region.wanted, yielded, e4]) (ex_load rfl isAgg_page qb 0 (eval_tmp o15) (pageCells q) (by rw [pageCells_size]; exact hlq) (fun j _ => by rw [Nat.zero_add]; exact cell_of_row _ _ _ _ _ _ ((wi.block _ (Array.getElem?_eq_some_iff.1 hqr).1 trivial).trans hqr))) ⟨(fun h => by cases h), rfl, wi⟩
          | 7, _ =>
            refine steps_of rfl ?_
            intro L aq wq hL hd st wi
            obtain ⟨u5, e5, V5⟩ := st.val 5 _ _ rfl rfl (hd ⟨5, .data⟩ (by simp) rfl)
            obtain rfl : .agg X.cells = u5 := V5.symm
            obtain ⟨u6, e6, V6⟩ := st.val 6 _ _ rfl rfl (hd ⟨6, .data⟩ (by simp) rfl)
            obtain rfl : .agg (pageCells q) = u6 := V6.symm
            obtain ⟨u4, e4, V4⟩ := st.val 4 _ _ rfl rfl (hd ⟨4, .chain⟩ (by simp) rfl)
            obtain rfl : .bool false = u4 := V4.symm
            refine opTo_call (w' := wq) (f := 11) (args := #[.agg X.cells, .agg (pageCells q)]) (by simp [Region.wanted, yielded, e4]) (by simp [go_sem, Act.eval, e5, e6]) ((fits_calls X q hlq wq).mono ?_)
            rintro e w' ⟨rfl, hag⟩
            exact ⟨_, by rw [hf2], (fun h => by cases h), rfl, wi.trans hag⟩
          | 8, _ =>
            refine steps_of rfl ?_
            intro L aq wq hL hd st wi
            have o7 := st.outside (t := 7) rfl (v := .pointer (some ⟨pb, 0, none⟩)) rfl
            obtain ⟨u4, e4, V4⟩ := st.val 4 _ _ rfl rfl (hd ⟨4, .guard⟩ (by simp) rfl)
            obtain rfl : .bool false = u4 := V4.symm
            exact opTo_val (v := .agg (pageCells p)) (by simp [Region.wanted, yielded, e4]) (ex_load rfl isAgg_page pb 0 (eval_tmp o7) (pageCells p) (by rw [pageCells_size]; exact hlp) (fun j _ => by rw [Nat.zero_add]; exact cell_of_row _ _ _ _ _ _ ((wi.block _ (Array.getElem?_eq_some_iff.1 hpr).1 trivial).trans hpr))) ⟨(fun h => by cases h), rfl, wi⟩
          | 9, _ =>
            refine steps_of rfl ?_
            intro L aq wq hL hd st wi
            have o15 := st.outside (t := 15) rfl (v := .pointer (some ⟨qb, 0, none⟩)) rfl
            obtain ⟨u4, e4, V4⟩ := st.val 4 _ _ rfl rfl (hd ⟨4, .guard⟩ (by simp) rfl)
            obtain rfl : .bool false = u4 := V4.symm
            exact opTo_val (v := .agg (pageCells q)) (by simp [Region.wanted, yielded, e4]) (ex_load rfl isAgg_page qb 0 (eval_tmp o15) (pageCells q) (by rw [pageCells_size]; exact hlq) (fun j _ => by rw [Nat.zero_add]; exact cell_of_row _ _ _ _ _ _ ((wi.block _ (Array.getElem?_eq_some_iff.1 hqr).1 trivial).trans hqr))) ⟨(fun h => by cases h), rfl, wi⟩
          | 10, _ =>
            refine steps_of rfl ?_
            intro L aq wq hL hd st wi
            obtain ⟨u8, e8, V8⟩ := st.val 8 _ _ rfl rfl (hd ⟨8, .data⟩ (by simp) rfl)
            obtain rfl : .agg (pageCells p) = u8 := V8.symm
            obtain ⟨u9, e9, V9⟩ := st.val 9 _ _ rfl rfl (hd ⟨9, .data⟩ (by simp) rfl)
            obtain rfl : .agg (pageCells q) = u9 := V9.symm
            obtain ⟨u4, e4, V4⟩ := st.val 4 _ _ rfl rfl (hd ⟨4, .guard⟩ (by simp) rfl)
            obtain rfl : .bool false = u4 := V4.symm
            refine opTo_eql keyable_page (keyed_page p hlp) (keyed_page q hlq) (by simp [Region.wanted, yielded, e4]) rfl (eval_tmp e8) (eval_tmp e9) (fun r hr => ⟨(fun h => by cases h), ?_, wi⟩)
            exact congrArg Value.bool (pageEq_of hr)
          | 11, _ =>
            refine steps_of rfl ?_
            intro L aq wq hL hd st wi
            obtain ⟨u7, e7, V7⟩ := st.val 7 _ _ rfl rfl (hd ⟨7, .data⟩ (by simp) rfl)
            obtain rfl : .bool (p == q) = u7 := V7.symm
            obtain ⟨u10, e10, V10⟩ := st.val 10 _ _ rfl rfl (hd ⟨10, .data⟩ (by simp) rfl)
            obtain rfl : .bool (p == q) = u10 := V10.symm
            obtain ⟨u4, e4, V4⟩ := st.val 4 _ _ rfl rfl (hd ⟨4, .guard⟩ (by simp) rfl)
            obtain rfl : .bool false = u4 := V4.symm
            exact opTo_val (v := .bool false) (by simp [Region.wanted, yielded, e4]) (by simp [go_sem, Act.eval, e7, e10]) ⟨(fun h => by cases h), rfl, wi⟩
          | 12, _ =>
            refine steps_of rfl ?_
            intro L aq wq hL hd st wi
            obtain ⟨u4, e4, V4⟩ := st.val 4 _ _ rfl rfl (hd ⟨4, .data⟩ (by simp) rfl)
            obtain rfl : .bool false = u4 := V4.symm
            obtain ⟨u11, e11, V11⟩ := st.val 11 _ _ rfl rfl (hd ⟨11, .data⟩ (by simp) rfl)
            obtain rfl : .bool false = u11 := V11.symm
            exact opTo_val (v := .bool false) rfl (by simp [go_sem, Act.eval, e4, e11]) ⟨(fun h => by cases h), rfl, wi⟩
          | 13, _ =>
            refine steps_of rfl ?_
            intro L aq wq hL hd st wi
            obtain ⟨u12, e12, V12⟩ := st.val 12 _ _ rfl rfl (hd ⟨12, .data⟩ (by simp) rfl)
            obtain rfl : .bool false = u12 := V12.symm
            exact opTo_val (v := .bool false) rfl (ex_move (.inl rfl) (eval_tmp e12)) ⟨(fun h => by cases h), rfl, wi⟩
          | 14, _ =>
            refine steps_of rfl ?_
            intro L aq wq hL hd st wi
            have o18 := st.outside (t := 18) rfl (v := .pointer (some ⟨yb, 0, none⟩)) rfl
            obtain ⟨u13, e13, V13⟩ := st.val 13 _ _ rfl rfl (hd ⟨13, .guard⟩ (by simp) rfl)
            obtain rfl : .bool false = u13 := V13.symm
            exact opTo_val (v := .agg Y.cells) (by simp [Region.wanted, yielded, e13]) (ex_load rfl isAgg_ptr yb 0 (eval_tmp o18) Y.cells rfl (Y.load ((wi.block _ (Array.getElem?_eq_some_iff.1 hyr).1 trivial).trans hyr))) ⟨(fun h => by cases h), rfl, wi⟩
          | 15, _ =>
            refine steps_of rfl ?_
            intro L aq wq hL hd st wi
            have o15 := st.outside (t := 15) rfl (v := .pointer (some ⟨qb, 0, none⟩)) rfl
            obtain ⟨u13, e13, V13⟩ := st.val 13 _ _ rfl rfl (hd ⟨13, .guard⟩ (by simp) rfl)
            obtain rfl : .bool false = u13 := V13.symm
            exact opTo_val (v := .agg (pageCells q)) (by simp [Region.wanted, yielded, e13]) (ex_load rfl isAgg_page qb 0 (eval_tmp o15) (pageCells q) (by rw [pageCells_size]; exact hlq) (fun j _ => by rw [Nat.zero_add]; exact cell_of_row _ _ _ _ _ _ ((wi.block _ (Array.getElem?_eq_some_iff.1 hqr).1 trivial).trans hqr))) ⟨(fun h => by cases h), rfl, wi⟩
          | 16, _ =>
            refine steps_of rfl ?_
            intro L aq wq hL hd st wi
            obtain ⟨u14, e14, V14⟩ := st.val 14 _ _ rfl rfl (hd ⟨14, .data⟩ (by simp) rfl)
            obtain rfl : .agg Y.cells = u14 := V14.symm
            obtain ⟨u15, e15, V15⟩ := st.val 15 _ _ rfl rfl (hd ⟨15, .data⟩ (by simp) rfl)
            obtain rfl : .agg (pageCells q) = u15 := V15.symm
            obtain ⟨u13, e13, V13⟩ := st.val 13 _ _ rfl rfl (hd ⟨13, .chain⟩ (by simp) rfl)
            obtain rfl : .bool false = u13 := V13.symm
            refine opTo_call (w' := wq) (f := 11) (args := #[.agg Y.cells, .agg (pageCells q)]) (by simp [Region.wanted, yielded, e13]) (by simp [go_sem, Act.eval, e14, e15]) ((fits_calls Y q hlq wq).mono ?_)
            rintro e w' ⟨rfl, hag⟩
            exact ⟨_, by rw [hf3], (fun h => by cases h), rfl, wi.trans hag⟩
          | 17, _ =>
            refine steps_of rfl ?_
            intro L aq wq hL hd st wi
            have o7 := st.outside (t := 7) rfl (v := .pointer (some ⟨pb, 0, none⟩)) rfl
            obtain ⟨u13, e13, V13⟩ := st.val 13 _ _ rfl rfl (hd ⟨13, .guard⟩ (by simp) rfl)
            obtain rfl : .bool false = u13 := V13.symm
            exact opTo_val (v := .agg (pageCells p)) (by simp [Region.wanted, yielded, e13]) (ex_load rfl isAgg_page pb 0 (eval_tmp o7) (pageCells p) (by rw [pageCells_size]; exact hlp) (fun j _ => by rw [Nat.zero_add]; exact cell_of_row _ _ _ _ _ _ ((wi.block _ (Array.getElem?_eq_some_iff.1 hpr).1 trivial).trans hpr))) ⟨(fun h => by cases h), rfl, wi⟩
          | 18, _ =>
            refine steps_of rfl ?_
            intro L aq wq hL hd st wi
            have o15 := st.outside (t := 15) rfl (v := .pointer (some ⟨qb, 0, none⟩)) rfl
            obtain ⟨u13, e13, V13⟩ := st.val 13 _ _ rfl rfl (hd ⟨13, .guard⟩ (by simp) rfl)
            obtain rfl : .bool false = u13 := V13.symm
            exact opTo_val (v := .agg (pageCells q)) (by simp [Region.wanted, yielded, e13]) (ex_load rfl isAgg_page qb 0 (eval_tmp o15) (pageCells q) (by rw [pageCells_size]; exact hlq) (fun j _ => by rw [Nat.zero_add]; exact cell_of_row _ _ _ _ _ _ ((wi.block _ (Array.getElem?_eq_some_iff.1 hqr).1 trivial).trans hqr))) ⟨(fun h => by cases h), rfl, wi⟩
          | 19, _ =>
            refine steps_of rfl ?_
            intro L aq wq hL hd st wi
            obtain ⟨u17, e17, V17⟩ := st.val 17 _ _ rfl rfl (hd ⟨17, .data⟩ (by simp) rfl)
            obtain rfl : .agg (pageCells p) = u17 := V17.symm
            obtain ⟨u18, e18, V18⟩ := st.val 18 _ _ rfl rfl (hd ⟨18, .data⟩ (by simp) rfl)
            obtain rfl : .agg (pageCells q) = u18 := V18.symm
            obtain ⟨u13, e13, V13⟩ := st.val 13 _ _ rfl rfl (hd ⟨13, .guard⟩ (by simp) rfl)
            obtain rfl : .bool false = u13 := V13.symm
            refine opTo_eql keyable_page (keyed_page p hlp) (keyed_page q hlq) (by simp [Region.wanted, yielded, e13]) rfl (eval_tmp e17) (eval_tmp e18) (fun r hr => ⟨(fun h => by cases h), ?_, wi⟩)
            exact congrArg Value.bool (pageEq_of hr)
          | 20, _ =>
            refine steps_of rfl ?_
            intro L aq wq hL hd st wi
            obtain ⟨u16, e16, V16⟩ := st.val 16 _ _ rfl rfl (hd ⟨16, .data⟩ (by simp) rfl)
            obtain rfl : .bool (p == q) = u16 := V16.symm
            obtain ⟨u19, e19, V19⟩ := st.val 19 _ _ rfl rfl (hd ⟨19, .data⟩ (by simp) rfl)
            obtain rfl : .bool (p == q) = u19 := V19.symm
            obtain ⟨u13, e13, V13⟩ := st.val 13 _ _ rfl rfl (hd ⟨13, .guard⟩ (by simp) rfl)
            obtain rfl : .bool false = u13 := V13.symm
            exact opTo_val (v := .bool false) (by simp [Region.wanted, yielded, e13]) (by simp [go_sem, Act.eval, e16, e19]) ⟨(fun h => by cases h), rfl, wi⟩
          | 21, _ =>
            refine steps_of rfl ?_
            intro L aq wq hL hd st wi
            obtain ⟨u13, e13, V13⟩ := st.val 13 _ _ rfl rfl (hd ⟨13, .data⟩ (by simp) rfl)
            obtain rfl : .bool false = u13 := V13.symm
            obtain ⟨u20, e20, V20⟩ := st.val 20 _ _ rfl rfl (hd ⟨20, .data⟩ (by simp) rfl)
            obtain rfl : .bool false = u20 := V20.symm
            exact opTo_val (v := .bool false) rfl (by simp [go_sem, Act.eval, e13, e20]) ⟨(fun h => by cases h), rfl, wi⟩
          | 22, _ =>
            refine steps_of rfl ?_
            intro L aq wq hL hd st wi
            obtain ⟨u21, e21, V21⟩ := st.val 21 _ _ rfl rfl (hd ⟨21, .data⟩ (by simp) rfl)
            obtain rfl : .bool false = u21 := V21.symm
            exact opTo_val (v := .bool false) rfl (ex_move (.inl rfl) (eval_tmp e21)) ⟨(fun h => by cases h), rfl, wi⟩
          | 23, _ =>
            refine steps_of rfl ?_
            intro L aq wq hL hd st wi
            have o17 := st.outside (t := 17) rfl (v := .pointer (some ⟨xb, 0, none⟩)) rfl
            obtain ⟨u22, e22, V22⟩ := st.val 22 _ _ rfl rfl (hd ⟨22, .guard⟩ (by simp) rfl)
            obtain rfl : .bool false = u22 := V22.symm
            exact opTo_val (v := .pointer (some ⟨xb, 0 + 4, none⟩)) (by simp [Region.wanted, yielded, e22]) (by simp [go_sem, Act.eval, o17]) ⟨(fun h => by cases h), rfl, wi⟩
          | 24, _ =>
            refine steps_of rfl ?_
            intro L aq wq hL hd st wi
            obtain ⟨u23, e23, V23⟩ := st.val 23 _ _ rfl rfl (hd ⟨23, .data⟩ (by simp) rfl)
            obtain rfl : .pointer (some ⟨xb, 0 + 4, none⟩) = u23 := V23.symm
            obtain ⟨u22, e22, V22⟩ := st.val 22 _ _ rfl rfl (hd ⟨22, .guard⟩ (by simp) rfl)
            obtain rfl : .bool false = u22 := V22.symm
            exact opTo_val (v := U (sum p)) (by simp [Region.wanted, yielded, e22]) (ex_load1 rfl oneU64 (eval_tmp e23) (by rw [cell_of_row _ _ _ _ _ _ ((wi.block _ (Array.getElem?_eq_some_iff.1 hxr).1 trivial).trans hxr)]; show some (U X.su) = _; rw [hxs])) ⟨(fun h => by cases h), rfl, wi⟩
          | 25, _ =>
            refine steps_of rfl ?_
            intro L aq wq hL hd st wi
            have o7 := st.outside (t := 7) rfl (v := .pointer (some ⟨pb, 0, none⟩)) rfl
            obtain ⟨u22, e22, V22⟩ := st.val 22 _ _ rfl rfl (hd ⟨22, .guard⟩ (by simp) rfl)
            obtain rfl : .bool false = u22 := V22.symm
            exact opTo_val (v := .agg (pageCells p)) (by simp [Region.wanted, yielded, e22]) (ex_load rfl isAgg_page pb 0 (eval_tmp o7) (pageCells p) (by rw [pageCells_size]; exact hlp) (fun j _ => by rw [Nat.zero_add]; exact cell_of_row _ _ _ _ _ _ ((wi.block _ (Array.getElem?_eq_some_iff.1 hpr).1 trivial).trans hpr))) ⟨(fun h => by cases h), rfl, wi⟩
          | 26, _ =>
            refine steps_of rfl ?_
            intro L aq wq hL hd st wi
            obtain ⟨u25, e25, V25⟩ := st.val 25 _ _ rfl rfl (hd ⟨25, .data⟩ (by simp) rfl)
            obtain rfl : .agg (pageCells p) = u25 := V25.symm
            obtain ⟨u22, e22, V22⟩ := st.val 22 _ _ rfl rfl (hd ⟨22, .chain⟩ (by simp) rfl)
            obtain rfl : .bool false = u22 := V22.symm
            refine opTo_call (w' := wq) (f := 12) (args := #[.agg (pageCells p)]) (by simp [Region.wanted, yielded, e22]) (by simp [go_sem, Act.eval, e25]) ((refPage_calls p hlp wq).mono ?_)
            rintro e w' ⟨rfl, hag⟩
            exact ⟨_, rfl, (fun h => by cases h), rfl, wi.trans hag⟩
          | 27, _ =>
            refine steps_of rfl ?_
            intro L aq wq hL hd st wi
            obtain ⟨u24, e24, V24⟩ := st.val 24 _ _ rfl rfl (hd ⟨24, .data⟩ (by simp) rfl)
            obtain rfl : U (sum p) = u24 := V24.symm
            obtain ⟨u26, e26, V26⟩ := st.val 26 _ _ rfl rfl (hd ⟨26, .data⟩ (by simp) rfl)
            obtain rfl : U (sum p) = u26 := V26.symm
            obtain ⟨u22, e22, V22⟩ := st.val 22 _ _ rfl rfl (hd ⟨22, .guard⟩ (by simp) rfl)
            obtain rfl : .bool false = u22 := V22.symm
            exact opTo_val (v := .bool false) (by simp [Region.wanted, yielded, e22]) (by simp [go_sem, Act.eval, e24, e26]) ⟨(fun h => by cases h), rfl, wi⟩
          | 28, _ =>
            refine steps_of rfl ?_
            intro L aq wq hL hd st wi
            obtain ⟨u22, e22, V22⟩ := st.val 22 _ _ rfl rfl (hd ⟨22, .data⟩ (by simp) rfl)
            obtain rfl : .bool false = u22 := V22.symm
            obtain ⟨u27, e27, V27⟩ := st.val 27 _ _ rfl rfl (hd ⟨27, .data⟩ (by simp) rfl)
            obtain rfl : .bool false = u27 := V27.symm
            exact opTo_val (v := .bool false) rfl (by simp [go_sem, Act.eval, e22, e27]) ⟨(fun h => by cases h), rfl, wi⟩
          | 29, _ =>
            refine steps_of rfl ?_
            intro L aq wq hL hd st wi
            obtain ⟨u28, e28, V28⟩ := st.val 28 _ _ rfl rfl (hd ⟨28, .data⟩ (by simp) rfl)
            obtain rfl : .bool false = u28 := V28.symm
            exact opTo_val (v := .bool false) rfl (ex_move (.inl rfl) (eval_tmp e28)) ⟨(fun h => by cases h), rfl, wi⟩
          | 30, _ =>
            refine steps_of rfl ?_
            intro L aq wq hL hd st wi
            have o17 := st.outside (t := 17) rfl (v := .pointer (some ⟨xb, 0, none⟩)) rfl
            obtain ⟨u29, e29, V29⟩ := st.val 29 _ _ rfl rfl (hd ⟨29, .guard⟩ (by simp) rfl)
            obtain rfl : .bool false = u29 := V29.symm
            exact opTo_val (v := .pointer (some ⟨xb, 0 + 4, none⟩)) (by simp [Region.wanted, yielded, e29]) (by simp [go_sem, Act.eval, o17]) ⟨(fun h => by cases h), rfl, wi⟩
          | 31, _ =>
            refine steps_of rfl ?_
            intro L aq wq hL hd st wi
            obtain ⟨u30, e30, V30⟩ := st.val 30 _ _ rfl rfl (hd ⟨30, .data⟩ (by simp) rfl)
            obtain rfl : .pointer (some ⟨xb, 0 + 4, none⟩) = u30 := V30.symm
            obtain ⟨u29, e29, V29⟩ := st.val 29 _ _ rfl rfl (hd ⟨29, .guard⟩ (by simp) rfl)
            obtain rfl : .bool false = u29 := V29.symm
            exact opTo_val (v := U (sum p)) (by simp [Region.wanted, yielded, e29]) (ex_load1 rfl oneU64 (eval_tmp e30) (by rw [cell_of_row _ _ _ _ _ _ ((wi.block _ (Array.getElem?_eq_some_iff.1 hxr).1 trivial).trans hxr)]; show some (U X.su) = _; rw [hxs])) ⟨(fun h => by cases h), rfl, wi⟩
          | 32, _ =>
            refine steps_of rfl ?_
            intro L aq wq hL hd st wi
            obtain ⟨u31, e31, V31⟩ := st.val 31 _ _ rfl rfl (hd ⟨31, .data⟩ (by simp) rfl)
            obtain rfl : U (sum p) = u31 := V31.symm
            obtain ⟨u29, e29, V29⟩ := st.val 29 _ _ rfl rfl (hd ⟨29, .guard⟩ (by simp) rfl)
            obtain rfl : .bool false = u29 := V29.symm
            exact opTo_val (v := .agg (Ptr.mk 0 0 0 0 (sum p)).cells) (by simp [Region.wanted, yielded, e29]) (ex_build_sum rfl (eval_tmp e31)) ⟨(fun h => by cases h), rfl, wi⟩
          | 33, _ =>
            refine steps_of rfl ?_
            intro L aq wq hL hd st wi
            have o7 := st.outside (t := 7) rfl (v := .pointer (some ⟨pb, 0, none⟩)) rfl
            obtain ⟨u29, e29, V29⟩ := st.val 29 _ _ rfl rfl (hd ⟨29, .guard⟩ (by simp) rfl)
            obtain rfl : .bool false = u29 := V29.symm
            exact opTo_val (v := .agg (pageCells p)) (by simp [Region.wanted, yielded, e29]) (ex_load rfl isAgg_page pb 0 (eval_tmp o7) (pageCells p) (by rw [pageCells_size]; exact hlp) (fun j _ => by rw [Nat.zero_add]; exact cell_of_row _ _ _ _ _ _ ((wi.block _ (Array.getElem?_eq_some_iff.1 hpr).1 trivial).trans hpr))) ⟨(fun h => by cases h), rfl, wi⟩
          | 34, _ =>
            refine steps_of rfl ?_
            intro L aq wq hL hd st wi
            obtain ⟨u32, e32, V32⟩ := st.val 32 _ _ rfl rfl (hd ⟨32, .data⟩ (by simp) rfl)
            obtain rfl : .agg (Ptr.mk 0 0 0 0 (sum p)).cells = u32 := V32.symm
            obtain ⟨u33, e33, V33⟩ := st.val 33 _ _ rfl rfl (hd ⟨33, .data⟩ (by simp) rfl)
            obtain rfl : .agg (pageCells p) = u33 := V33.symm
            obtain ⟨u29, e29, V29⟩ := st.val 29 _ _ rfl rfl (hd ⟨29, .chain⟩ (by simp) rfl)
            obtain rfl : .bool false = u29 := V29.symm
            refine opTo_call (w' := wq) (f := 11) (args := #[.agg (Ptr.mk 0 0 0 0 (sum p)).cells, .agg (pageCells p)]) (by simp [Region.wanted, yielded, e29]) (by simp [go_sem, Act.eval, e32, e33]) ((fits_calls ⟨0, 0, 0, 0, sum p⟩ p hlp wq).mono ?_)
            rintro e w' ⟨rfl, hag⟩
            exact ⟨_, rfl, (fun h => by cases h), rfl, wi.trans hag⟩
          | 35, _ =>
            refine steps_of rfl ?_
            intro L aq wq hL hd st wi
            obtain ⟨u29, e29, V29⟩ := st.val 29 _ _ rfl rfl (hd ⟨29, .data⟩ (by simp) rfl)
            obtain rfl : .bool false = u29 := V29.symm
            obtain ⟨u34, e34, V34⟩ := st.val 34 _ _ rfl rfl (hd ⟨34, .data⟩ (by simp) rfl)
            obtain rfl : .bool false = u34 := V34.symm
            exact opTo_val (v := .bool false) rfl (by simp [go_sem, Act.eval, e29, e34]) ⟨(fun h => by cases h), rfl, wi⟩
          | (i + 36), h => omega
        case hend8 =>
          intro vals w'' hV hW
          have hx35 : vals 35 = .bool false := hV 35 _ _ rfl rfl
          have HAF := Lib.hid (HA8.out.trans hW)
          have HXR := Lib.hid ((hW.block _ (Array.getElem?_eq_some_iff.1 HXR8.out).1 trivial).trans HXR8.out)
          have HYR := Lib.hid ((hW.block _ (Array.getElem?_eq_some_iff.1 HYR8.out).1 trivial).trans HYR8.out)
          simp only [putAll, Act.put, List.setIfInBounds_toArray, List.set_cons_succ, List.set_cons_zero, hx35]
          clear hV hW hx35 HXR8 HYR8 HA8 hpr hqr hxr hyr hW8 HQE HQL HF1 HF2 HF3 HXS
          go_wp2_with fail
          all_goals first
            | exact here_of (xb, yb) (by kernel_rfl) rfl ⟨⟨by rw [← HX.out]; exact HXR.out, by rw [← HY.out]; exact HYR.out⟩, by omega, HAF.out⟩
            | (refine (wakes05_calls _ (HG.out.agrees HAF.out)).mono ?_
               rintro e w5 ⟨rfl, hg5⟩
               have HA5 := Lib.hid (HAF.out.trans hg5)
               clear hg5
               go_wp2_with fail
               go_ret
               exact ⟨rfl, HA5.out⟩)
    case part4 =>
      rintro a' W ⟨⟨xb, yb⟩, u, rfl, ⟨hxr, hyr⟩, ⟨ha0, hb0, ha6, hb6⟩, hag⟩
      simp only at hxr hyr
      obtain ⟨one, h1⟩ : ∃ one : Bool, one = (decide (4 ≤ a) && decide (a < size) && decide (1 ≤ bi) && decide (bi ≤ 1073741824)) := ⟨_, rfl⟩
      obtain ⟨two, h2⟩ : ∃ two : Bool, two = (decide (4 ≤ b) && decide (b < size) && !decide (a = b)) := ⟨_, rfl⟩
      have hw1 : w16 a = a := by unfold w16; rw [IntKind.wrap_u16]; omega
      have hw2 : w16 b = b := by unfold w16; rw [IntKind.wrap_u16]; omega
      have hXr : (ptrOf 2 a b bi p).right size = (one && two) := by
        rw [h1, h2]
        simp only [ptrOf, hw1, hw2, Ptr.right, Ptr.first, Ptr.meta, Ptr.addrs]
        simp
        by_cases e1 : 4 ≤ a <;> by_cases e2 : a < size <;> by_cases e3 : 1 ≤ bi <;> by_cases e4 : bi ≤ 1073741824 <;> by_cases e5 : a = b <;> by_cases e6 : 4 ≤ b <;> by_cases e7 : b < size <;> simp [e1, e2, e3, e4, e5, e6, e7, Ptr.fits1]
      have hYr : (ptrOf 3 a b bi p).right size = one := by
        rw [h1]
        simp only [ptrOf, hw1, hw2, Ptr.right, Ptr.first, Ptr.meta, Ptr.addrs]
        simp
        by_cases e1 : 4 ≤ a <;> by_cases e2 : a < size <;> by_cases e3 : 1 ≤ bi <;> by_cases e4 : bi ≤ 1073741824 <;> simp [e1, e2, e3, e4, Ptr.fits1]
      have hokX : (ptrOf 2 a b bi p).ok := by simp [Ptr.ok, ptrOf, hw1, hw2]; omega
      have hokY : (ptrOf 3 a b bi p).ok := by simp [Ptr.ok, ptrOf, hw1]; omega
      refine wp_cut2 (Here (fun (ot : Bool × Bool) u => (u 0 :: u 1 :: u 2 :: u 3 :: u 4 :: (.int .i64 size : Value) :: u 6 :: u 7 :: u 8 :: u 9 :: u 10 :: u 11 :: u 12 :: u 13 :: u 14 :: u 15 :: u 16 :: (.pointer (some ⟨xb, 0, none⟩) : Value) :: (.pointer (some ⟨yb, 0, none⟩) : Value) :: (.bool ot.1 : Value) :: (.bool ot.2 : Value) :: u 21 :: u 22 :: u 23 :: u 24 :: u 25 :: u 26 :: u 27 :: u 28 :: u 29 :: u 30 :: u 31 :: u 32 :: u 33 :: u 34 :: u 35 :: u 36 :: u 37 :: u 38 :: u 39 :: u 40 :: u 41 :: u 42 :: u 43 :: u 44 :: u 45 :: u 46 :: u 47 :: u 48 :: u 49 :: u 50 :: u 51 :: u 52 :: u 53 :: u 54 :: u 55 :: u 56 :: u 57 :: u 58 :: u 59 :: u 60 :: u 61 :: u 62 :: u 63 :: u 64 :: u 65 :: u 66 :: u 67 :: u 68 :: u 69 :: u 70 :: u 71 :: u 72 :: u 73 :: u 74 :: u 75 :: u 76 :: u 77 :: u 78 :: u 79 :: u 80 :: u 81 :: u 82 :: u 83 :: u 84 :: u 85 :: u 86 :: u 87 :: u 88 :: u 89 :: u 90 :: u 91 :: u 92 :: u 93 :: u 94 :: u 95 :: u 96 :: u 97 :: u 98 :: u 99 :: u 100 :: u 101 :: u 102 :: u 103 :: u 104 :: u 105 :: u 106 :: u 107 :: u 108 :: u 109 :: u 110 :: u 111 :: u 112 :: u 113 :: u 114 :: u 115 :: u 116 :: u 117 :: u 118 :: u 119 :: u 120 :: u 121 :: u 122 :: u 123 :: u 124 :: u 125 :: u 126 :: u 127 :: u 128 :: u 129 :: u 130 :: u 131 :: u 132 :: u 133 :: u 134 :: u 135 :: u 136 :: u 137 :: u 138 :: u 139 :: u 140 :: u 141 :: u 142 :: u 143 :: u 144 :: u 145 :: u 146 :: u 147 :: u 148 :: u 149 :: u 150 :: u 151 :: u 152 :: u 153 :: u 154 :: []).toArray) (fun ot W' => ot.1 = one ∧ ot.2 = two ∧ W = W')) ?part5 ?part6
      case part5 =>
        have H1 := Lib.hid h1
        have H2 := Lib.hid h2
        clear h1 h2 hXr hYr hxr hyr hag hw1 hw2 hokX hokY
        intro K1 hK1
        go_wp2_with fail
        all_goals
          refine here_of (_, _) (by rfl) rfl ⟨?_, ?_, rfl⟩
          · rw [H1.out, Bool.eq_iff_iff]
            first
              | (simp; done)
              | (simp; omega)
              | (change (decide (bi ≤ 1073741824)) = true ↔ _; simp; omega)
          · rw [H2.out, Bool.eq_iff_iff]
            first
              | (simp; done)
              | (simp; omega)
              | (change (a != b) = true ↔ _; simp; omega)
      case part6 =>
        rintro a' W' ⟨⟨o, t⟩, u, rfl, ho, ht, rfl⟩
        simp only at ho ht
        rw [← ho, ← ht] at hXr
        rw [← ho] at hYr
        generalize ptrOf 2 a b bi p = X at *
        generalize ptrOf 3 a b bi p = Y at *
        have HXR := Lib.hid hxr
        have HYR := Lib.hid hyr
        have HXr := Lib.hid hXr
        have HYr := Lib.hid hYr
        have HAG := Lib.hid hag
        clear hxr hyr hXr hYr hag h1 h2 ho ht hw1 hw2
        cases o <;> cases t
        all_goals
          go_wp2_with (refine wpList_val rfl (ex_load (ty := 27) rfl isAgg_ptr xb 0 rfl X.cells rfl (X.load HXR.out)) ?_)
          refine (right_calls X hokX size _).mono ?_
          rintro e W1 ⟨rfl, hg1⟩
          have HA1 := Lib.hid (HAG.out.trans hg1)
          have HYR1 := Lib.hid ((hg1.block _ (Array.getElem?_eq_some_iff.1 HYR.out).1 trivial).trans HYR.out)
          rw [HXr.out]
          clear hg1
          go_wp2_with (refine wpList_val rfl (ex_load (ty := 27) rfl isAgg_ptr yb 0 rfl Y.cells rfl (Y.load HYR1.out)) ?_)
          refine (right_calls Y hokY size _).mono ?_
          rintro e W2 ⟨rfl, hg2⟩
          have HA2 := Lib.hid (HA1.out.trans hg2)
          rw [HYr.out]
          clear hg2
          go_wp2_with fail
          refine (wakes05_calls _ (HG.out.agrees HA2.out)).mono ?_
          rintro e W3 ⟨rfl, hg3⟩
          have HA3 := Lib.hid (HA2.out.trans hg3)
          clear hg3
          go_wp2_with fail
          go_ret
          exact ⟨rfl, HA3.out⟩
