/-
  POINTERS: ptr.Fits.
  Conditions: none.
-/
import Derived.Test.YtmkbchhmeaefeaaDoorPtr2
namespace Suture
open Go Go.RowKit Go.Proofs

def Ptr.fits (x : Ptr) (p : List (BitVec 8)) : Bool := (x.kd != 0) && (x.su == sum p)
theorem oneU64 : IsOne Tryd.prog 25 := ⟨⟨_, Tryd.underlying25, rfl⟩, by kernel_rfl⟩

def vFits1 (kd : Int) (su : BitVec 64) (p : List (BitVec 8)) (pb : Nat) : Nat → Value → Prop
  | 0, val => val = .pointer (some ⟨pb, 0 + 0, none⟩)
  | 1, val => val = .int .u8 kd
  | 2, val => val = .bool true
  | 3, val => val = .bool true
  | 4, val => val = .pointer (some ⟨pb, 0 + 4, none⟩)
  | 5, val => val = U su
  | 6, val => val = .agg (pageCells p)
  | 7, val => val = U (sum p)
  | 8, val => val = .bool (su == sum p)
  | 9, val => val = .bool (su == sum p)
  | 10, val => val = .bool (su == sum p)
  | _, _ => True

set_option maxHeartbeats 2000000 in
set_option maxRecDepth 100000 in
theorem fits_calls1 (x : Ptr) (p : List (BitVec 8)) (hl : p.length = 256) (hk : x.kd ≠ 0) (w : World) : Calls Tryd.prog 11 #[.agg x.cells, .agg (pageCells p)] w fun e w' => e = .returned (.bool (x.fits p)) ∧ Agrees All w w' := by
  obtain ⟨W1, hW1⟩ : ∃ W1, (w.alloc (.cells x.cells 27)).alloc (.cells (pageCells p) 37) = W1 := ⟨_, rfl⟩
  have hA : Agrees All w W1 := by rw [← hW1]; exact ((Agrees.refl _ w).alloc _).alloc _
  have hpr : W1.heap[w.heap.size]? = some (.cells x.cells 27 (0, 0)) := by rw [← hW1, heap_alloc_old _ _ (by simp)]; exact World.alloc_heap_new w _
  have hgr : W1.heap[w.heap.size + 1]? = some (.cells (pageCells p) 37 (0, 0)) := by
    rw [← hW1]; have := World.alloc_heap_new (w.alloc (.cells x.cells 27)) (.cells (pageCells p) 37); rwa [World.size_alloc] at this
  have HA := Lib.hid hA
  have HP := Lib.hid hpr
  have HG := Lib.hid hgr
  clear hA hpr hgr
  go_enter Tryd.func11, Tryd.ntmps11
  go_wp2_with fail
  obtain ⟨kd, a0, a1, bi, su⟩ := x
  obtain ⟨W0, hW0⟩ : ∃ W0, W1.drew = W0 := ⟨_, rfl⟩
  have hpr : W0.heap[w.heap.size]? = some (.cells (Ptr.mk kd a0 a1 bi su).cells 27 (0, 0)) := by rw [← hW0]; exact HP.out
  have hgr : W0.heap[w.heap.size + 1]? = some (.cells (pageCells p) 37 (0, 0)) := by rw [← hW0]; exact HG.out
  have hA0 : Agrees All w W0 := by rw [← hW0]; exact HA.out.drew
  have hpl := (Array.getElem?_eq_some_iff.1 hpr).1
  have hgl := (Array.getElem?_eq_some_iff.1 hgr).1
  have hkd : (kd != 0) = true := by simpa using hk
  refine wp_region_plan (by kernel_rfl) ?hok (by kernel_rfl) (vFits1 kd su p w.heap.size) (fun _ _ W => Agrees All W0 W) ?h0 (fun i hi => ?steps) ?hend
  case hok => kernel_rfl
  case h0 => exact fun vals => by rw [← hW0]; exact Agrees.refl _ _
  case steps =>
    generalize w.heap.size + 1 = gb at *
    generalize w.heap.size = pb at *
    have hi' : i < 11 := hi
    match i, hi' with
    | 0, _ =>
      refine steps_of rfl ?_
      intro L aq wq hL hd st wi
      have o2 := st.outside (t := 2) rfl (v := .pointer (some ⟨pb, 0, none⟩)) rfl
      exact opTo_val (v := .pointer (some ⟨pb, 0 + 0, none⟩)) rfl (by simp [go_sem, Act.eval, o2]) ⟨(fun h => by cases h), rfl, wi⟩
    | 1, _ =>
      refine steps_of rfl ?_
      intro L aq wq hL hd st wi
      obtain ⟨u0, e0, V0⟩ := st.val 0 _ _ rfl rfl (hd ⟨0, .data⟩ (by simp) rfl)
      obtain rfl : .pointer (some ⟨pb, 0 + 0, none⟩) = u0 := V0.symm
      exact opTo_val (v := .int .u8 kd) rfl (ex_load1 rfl oneU8 (eval_tmp e0) (by rw [cell_of_row wq _ _ _ _ _ ((wi.block pb hpl trivial).trans hpr)]; rfl)) ⟨(fun h => by cases h), rfl, wi⟩
    | 2, _ =>
      refine steps_of rfl ?_
      intro L aq wq hL hd st wi
      obtain ⟨u1, e1, V1⟩ := st.val 1 _ _ rfl rfl (hd ⟨1, .data⟩ (by simp) rfl)
      obtain rfl : .int .u8 kd = u1 := V1.symm
      exact opTo_val (v := .bool true) rfl (by simp [go_sem, Act.eval, e1, hkd]) ⟨(fun h => by cases h), rfl, wi⟩
    | 3, _ =>
      refine steps_of rfl ?_
      intro L aq wq hL hd st wi
      obtain ⟨u2, e2, V2⟩ := st.val 2 _ _ rfl rfl (hd ⟨2, .data⟩ (by simp) rfl)
      obtain rfl : .bool true = u2 := V2.symm
      exact opTo_val (v := .bool true) rfl (ex_move (.inl rfl) (eval_tmp e2)) ⟨(fun h => by cases h), rfl, wi⟩
    | 4, _ =>
      refine steps_of rfl ?_
      intro L aq wq hL hd st wi
      have o2 := st.outside (t := 2) rfl (v := .pointer (some ⟨pb, 0, none⟩)) rfl
      obtain ⟨u3, e3, V3⟩ := st.val 3 _ _ rfl rfl (hd ⟨3, .guard⟩ (by simp) rfl)
      obtain rfl : .bool true = u3 := V3.symm
      exact opTo_val (v := .pointer (some ⟨pb, 0 + 4, none⟩)) (by simp [Region.wanted, yielded, e3]) (by simp [go_sem, Act.eval, o2]) ⟨(fun h => by cases h), rfl, wi⟩
    | 5, _ =>
      refine steps_of rfl ?_
      intro L aq wq hL hd st wi
      obtain ⟨u4, e4, V4⟩ := st.val 4 _ _ rfl rfl (hd ⟨4, .data⟩ (by simp) rfl)
      obtain rfl : .pointer (some ⟨pb, 0 + 4, none⟩) = u4 := V4.symm
      obtain ⟨u3, e3, V3⟩ := st.val 3 _ _ rfl rfl (hd ⟨3, .guard⟩ (by simp) rfl)
      obtain rfl : .bool true = u3 := V3.symm
      exact opTo_val (v := U su) (by simp [Region.wanted, yielded, e3]) (ex_load1 rfl oneU64 (eval_tmp e4) (by rw [cell_of_row wq _ _ _ _ _ ((wi.block pb hpl trivial).trans hpr)]; rfl)) ⟨(fun h => by cases h), rfl, wi⟩
    | 6, _ =>
      refine steps_of rfl ?_
      intro L aq wq hL hd st wi
      have o3 := st.outside (t := 3) rfl (v := .pointer (some ⟨gb, 0, none⟩)) rfl
      obtain ⟨u3, e3, V3⟩ := st.val 3 _ _ rfl rfl (hd ⟨3, .guard⟩ (by simp) rfl)
      obtain rfl : .bool true = u3 := V3.symm
      exact opTo_val (v := .agg (pageCells p)) (by simp [Region.wanted, yielded, e3]) (ex_load rfl isAgg_page gb 0 (eval_tmp o3) (pageCells p) (by rw [pageCells_size]; exact hl) (fun j _ => by rw [Nat.zero_add]; exact cell_of_row wq _ _ _ _ _ ((wi.block gb hgl trivial).trans hgr))) ⟨(fun h => by cases h), rfl, wi⟩
    | 7, _ =>
      refine steps_of rfl ?_
      intro L aq wq hL hd st wi
      obtain ⟨u6, e6, V6⟩ := st.val 6 _ _ rfl rfl (hd ⟨6, .data⟩ (by simp) rfl)
      obtain rfl : .agg (pageCells p) = u6 := V6.symm
      obtain ⟨u3, e3, V3⟩ := st.val 3 _ _ rfl rfl (hd ⟨3, .chain⟩ (by simp) rfl)
      obtain rfl : .bool true = u3 := V3.symm
      refine opTo_call (w' := wq) (f := 19) (args := #[.agg (pageCells p)]) (by simp [Region.wanted, yielded, e3]) (by simp [go_sem, Act.eval, e6]) ((crcPage_calls p hl wq).mono ?_)
      rintro e w' ⟨rfl, hag⟩
      exact ⟨_, rfl, (fun h => by cases h), rfl, wi.trans hag⟩
    | 8, _ =>
      refine steps_of rfl ?_
      intro L aq wq hL hd st wi
      obtain ⟨u5, e5, V5⟩ := st.val 5 _ _ rfl rfl (hd ⟨5, .data⟩ (by simp) rfl)
      obtain rfl : U su = u5 := V5.symm
      obtain ⟨u7, e7, V7⟩ := st.val 7 _ _ rfl rfl (hd ⟨7, .data⟩ (by simp) rfl)
      obtain rfl : U (sum p) = u7 := V7.symm
      obtain ⟨u3, e3, V3⟩ := st.val 3 _ _ rfl rfl (hd ⟨3, .guard⟩ (by simp) rfl)
      obtain rfl : .bool true = u3 := V3.symm
      exact opTo_val (v := .bool (su == sum p)) (by simp [Region.wanted, yielded, e3]) (by simp [go_sem, Act.eval, e5, e7]) ⟨(fun h => by cases h), rfl, wi⟩
    | 9, _ =>
      refine steps_of rfl ?_
      intro L aq wq hL hd st wi
      obtain ⟨u3, e3, V3⟩ := st.val 3 _ _ rfl rfl (hd ⟨3, .data⟩ (by simp) rfl)
      obtain rfl : .bool true = u3 := V3.symm
      obtain ⟨u8, e8, V8⟩ := st.val 8 _ _ rfl rfl (hd ⟨8, .data⟩ (by simp) rfl)
      obtain rfl : .bool (su == sum p) = u8 := V8.symm
      exact opTo_val (v := .bool (su == sum p)) rfl (by simp [go_sem, Act.eval, e3, e8]) ⟨(fun h => by cases h), rfl, wi⟩
    | 10, _ =>
      refine steps_of rfl ?_
      intro L aq wq hL hd st wi
      obtain ⟨u9, e9, V9⟩ := st.val 9 _ _ rfl rfl (hd ⟨9, .data⟩ (by simp) rfl)
      obtain rfl : .bool (su == sum p) = u9 := V9.symm
      exact opTo_val (v := .bool (su == sum p)) rfl (ex_move (.inr rfl) (eval_tmp e9)) ⟨(fun h => by cases h), rfl, wi⟩
    | (i + 11), h => omega
  case hend =>
    intro vals w' hV hW
    have HF := Lib.hid (hA0.trans hW)
    have x10 : vals 10 = .bool (su == sum p) := hV 10 _ _ rfl rfl
    simp only [putAll, Act.put, List.setIfInBounds_toArray, List.set_cons_succ, List.set_cons_zero, x10]
    clear hV hW hpr hgr HP HG hA0 HA
    go_wp2_with fail
    go_ret
    refine ⟨?_, HF.out⟩
    have e : (Ptr.mk kd a0 a1 bi su).fits p = ((kd != 0) && (su == sum p)) := rfl
    rw [e, hkd]
    rfl
def vFits0 (kd : Int) (pb : Nat) : Nat → Value → Prop
  | 0, val => val = .pointer (some ⟨pb, 0 + 0, none⟩)
  | 1, val => val = .int .u8 kd
  | 2, val => val = .bool false
  | 3, val => val = .bool false
  | 4, val => val = undef
  | 5, val => val = undef
  | 6, val => val = undef
  | 7, val => val = undef
  | 8, val => val = undef
  | 9, val => val = .bool false
  | 10, val => val = .bool false
  | _, _ => True

set_option maxHeartbeats 2000000 in
set_option maxRecDepth 100000 in
theorem fits_calls0 (x : Ptr) (p : List (BitVec 8)) (hk : x.kd = 0) (w : World) : Calls Tryd.prog 11 #[.agg x.cells, .agg (pageCells p)] w fun e w' => e = .returned (.bool (x.fits p)) ∧ Agrees All w w' := by
  obtain ⟨W1, hW1⟩ : ∃ W1, (w.alloc (.cells x.cells 27)).alloc (.cells (pageCells p) 37) = W1 := ⟨_, rfl⟩
  have hA : Agrees All w W1 := by rw [← hW1]; exact ((Agrees.refl _ w).alloc _).alloc _
  have hpr : W1.heap[w.heap.size]? = some (.cells x.cells 27 (0, 0)) := by rw [← hW1, heap_alloc_old _ _ (by simp)]; exact World.alloc_heap_new w _
  have hgr : W1.heap[w.heap.size + 1]? = some (.cells (pageCells p) 37 (0, 0)) := by
    rw [← hW1]; have := World.alloc_heap_new (w.alloc (.cells x.cells 27)) (.cells (pageCells p) 37); rwa [World.size_alloc] at this
  have HA := Lib.hid hA
  have HP := Lib.hid hpr
  have HG := Lib.hid hgr
  clear hA hpr hgr
  go_enter Tryd.func11, Tryd.ntmps11
  go_wp2_with fail
  obtain ⟨kd, a0, a1, bi, su⟩ := x
  obtain ⟨W0, hW0⟩ : ∃ W0, W1.drew = W0 := ⟨_, rfl⟩
  have hpr : W0.heap[w.heap.size]? = some (.cells (Ptr.mk kd a0 a1 bi su).cells 27 (0, 0)) := by rw [← hW0]; exact HP.out
  have hgr : W0.heap[w.heap.size + 1]? = some (.cells (pageCells p) 37 (0, 0)) := by rw [← hW0]; exact HG.out
  have hA0 : Agrees All w W0 := by rw [← hW0]; exact HA.out.drew
  have hpl := (Array.getElem?_eq_some_iff.1 hpr).1
  have hgl := (Array.getElem?_eq_some_iff.1 hgr).1
  have hkd : (kd != 0) = false := by simpa using hk
  refine wp_region_plan (by kernel_rfl) ?hok (by kernel_rfl) (vFits0 kd w.heap.size) (fun _ _ W => Agrees All W0 W) ?h0 (fun i hi => ?steps) ?hend
  case hok => kernel_rfl
  case h0 => exact fun vals => by rw [← hW0]; exact Agrees.refl _ _
  case steps =>
    generalize w.heap.size + 1 = gb at *
    generalize w.heap.size = pb at *
    have hi' : i < 11 := hi
    match i, hi' with
    | 0, _ =>
      refine steps_of rfl ?_
      intro L aq wq hL hd st wi
      have o2 := st.outside (t := 2) rfl (v := .pointer (some ⟨pb, 0, none⟩)) rfl
      exact opTo_val (v := .pointer (some ⟨pb, 0 + 0, none⟩)) rfl (by simp [go_sem, Act.eval, o2]) ⟨(fun h => by cases h), rfl, wi⟩
    | 1, _ =>
      refine steps_of rfl ?_
      intro L aq wq hL hd st wi
      obtain ⟨u0, e0, V0⟩ := st.val 0 _ _ rfl rfl (hd ⟨0, .data⟩ (by simp) rfl)
      obtain rfl : .pointer (some ⟨pb, 0 + 0, none⟩) = u0 := V0.symm
      exact opTo_val (v := .int .u8 kd) rfl (ex_load1 rfl oneU8 (eval_tmp e0) (by rw [cell_of_row wq _ _ _ _ _ ((wi.block pb hpl trivial).trans hpr)]; rfl)) ⟨(fun h => by cases h), rfl, wi⟩
    | 2, _ =>
      refine steps_of rfl ?_
      intro L aq wq hL hd st wi
      obtain ⟨u1, e1, V1⟩ := st.val 1 _ _ rfl rfl (hd ⟨1, .data⟩ (by simp) rfl)
      obtain rfl : .int .u8 kd = u1 := V1.symm
      exact opTo_val (v := .bool false) rfl (by simp [go_sem, Act.eval, e1, hkd]) ⟨(fun h => by cases h), rfl, wi⟩
    | 3, _ =>
      refine steps_of rfl ?_
      intro L aq wq hL hd st wi
      obtain ⟨u2, e2, V2⟩ := st.val 2 _ _ rfl rfl (hd ⟨2, .data⟩ (by simp) rfl)
      obtain rfl : .bool false = u2 := V2.symm
      exact opTo_val (v := .bool false) rfl (ex_move (.inl rfl) (eval_tmp e2)) ⟨(fun h => by cases h), rfl, wi⟩
    | 4, _ =>
      refine steps_of rfl ?_
      intro L aq wq hL hd st wi
      have o2 := st.outside (t := 2) rfl (v := .pointer (some ⟨pb, 0, none⟩)) rfl
      obtain ⟨u3, e3, V3⟩ := st.val 3 _ _ rfl rfl (hd ⟨3, .guard⟩ (by simp) rfl)
      obtain rfl : .bool false = u3 := V3.symm
      exact opTo_not (by simp [Region.wanted, yielded, e3]) ⟨fun _ => rfl, rfl, wi⟩
    | 5, _ =>
      refine steps_of rfl ?_
      intro L aq wq hL hd st wi
      obtain ⟨u4, e4, V4⟩ := st.val 4 _ _ rfl rfl (hd ⟨4, .data⟩ (by simp) rfl)
      obtain rfl : undef = u4 := V4.symm
      obtain ⟨u3, e3, V3⟩ := st.val 3 _ _ rfl rfl (hd ⟨3, .guard⟩ (by simp) rfl)
      obtain rfl : .bool false = u3 := V3.symm
      exact opTo_not (by simp [Region.wanted, yielded, e3]) ⟨fun _ => rfl, rfl, wi⟩
    | 6, _ =>
      refine steps_of rfl ?_
      intro L aq wq hL hd st wi
      have o3 := st.outside (t := 3) rfl (v := .pointer (some ⟨gb, 0, none⟩)) rfl
      obtain ⟨u3, e3, V3⟩ := st.val 3 _ _ rfl rfl (hd ⟨3, .guard⟩ (by simp) rfl)
      obtain rfl : .bool false = u3 := V3.symm
      exact opTo_not (by simp [Region.wanted, yielded, e3]) ⟨fun _ => rfl, rfl, wi⟩
    | 7, _ =>
      refine steps_of rfl ?_
      intro L aq wq hL hd st wi
      obtain ⟨u6, e6, V6⟩ := st.val 6 _ _ rfl rfl (hd ⟨6, .data⟩ (by simp) rfl)
      obtain rfl : undef = u6 := V6.symm
      obtain ⟨u3, e3, V3⟩ := st.val 3 _ _ rfl rfl (hd ⟨3, .chain⟩ (by simp) rfl)
      obtain rfl : .bool false = u3 := V3.symm
      exact opTo_not (by simp [Region.wanted, yielded, e3]) ⟨fun _ => rfl, rfl, wi⟩
    | 8, _ =>
      refine steps_of rfl ?_
      intro L aq wq hL hd st wi
      obtain ⟨u5, e5, V5⟩ := st.val 5 _ _ rfl rfl (hd ⟨5, .data⟩ (by simp) rfl)
      obtain rfl : undef = u5 := V5.symm
      obtain ⟨u7, e7, V7⟩ := st.val 7 _ _ rfl rfl (hd ⟨7, .data⟩ (by simp) rfl)
      obtain rfl : undef = u7 := V7.symm
      obtain ⟨u3, e3, V3⟩ := st.val 3 _ _ rfl rfl (hd ⟨3, .guard⟩ (by simp) rfl)
      obtain rfl : .bool false = u3 := V3.symm
      exact opTo_not (by simp [Region.wanted, yielded, e3]) ⟨fun _ => rfl, rfl, wi⟩
    | 9, _ =>
      refine steps_of rfl ?_
      intro L aq wq hL hd st wi
      obtain ⟨u3, e3, V3⟩ := st.val 3 _ _ rfl rfl (hd ⟨3, .data⟩ (by simp) rfl)
      obtain rfl : .bool false = u3 := V3.symm
      obtain ⟨u8, e8, V8⟩ := st.val 8 _ _ rfl rfl (hd ⟨8, .data⟩ (by simp) rfl)
      obtain rfl : undef = u8 := V8.symm
      exact opTo_val (v := .bool false) rfl (by simp [go_sem, Act.eval, e3]) ⟨(fun h => by cases h), rfl, wi⟩
    | 10, _ =>
      refine steps_of rfl ?_
      intro L aq wq hL hd st wi
      obtain ⟨u9, e9, V9⟩ := st.val 9 _ _ rfl rfl (hd ⟨9, .data⟩ (by simp) rfl)
      obtain rfl : .bool false = u9 := V9.symm
      exact opTo_val (v := .bool false) rfl (ex_move (.inr rfl) (eval_tmp e9)) ⟨(fun h => by cases h), rfl, wi⟩
    | (i + 11), h => omega
  case hend =>
    intro vals w' hV hW
    have HF := Lib.hid (hA0.trans hW)
    have x10 : vals 10 = .bool false := hV 10 _ _ rfl rfl
    simp only [putAll, Act.put, List.setIfInBounds_toArray, List.set_cons_succ, List.set_cons_zero, x10]
    clear hV hW hpr hgr HP HG hA0 HA
    go_wp2_with fail
    go_ret
    refine ⟨?_, HF.out⟩
    rfl



theorem fits_calls (x : Ptr) (p : List (BitVec 8)) (hl : p.length = 256) (w : World) : Calls Tryd.prog 11 #[.agg x.cells, .agg (pageCells p)] w fun e w' => e = .returned (.bool (x.fits p)) ∧ Agrees All w w' := by
  by_cases hk : x.kd = 0
  · exact fits_calls0 x p hk w
  · exact fits_calls1 x p hl hk w

/-- a number cut to 16 bits -/
def w16 (a : Int) : Int := IntKind.u16.wrap a
/-- the pointer that is made -/
def ptrOf (kd a b bi : Int) (p : List (BitVec 8)) : Ptr := ⟨kd, w16 a, if kd = 3 then 0 else w16 b, bi, sum p⟩

end Suture
