/-
  POINTERS: ptr.addresses, ptr.Right.
  Conditions: none.
-/
import Derived.Test.YtmkbchhmeaefeaaDoorPtr1
import Derived.WalkMore
namespace Suture
open Go Go.RowKit Go.Proofs

theorem run_loadVar_one {P : Program} {ty : TypeId} (hA : IsOne P ty) {W : World} {b off : Nat} {v : Value} (hc : W.cell? ⟨b, off, none⟩ = some v) : (loadVar ty ⟨b, off, none⟩).run P W = .ok v W := by
  obtain ⟨⟨d, hu, hd⟩, hi⟩ := hA
  have hagg : (isAgg ty).run P W = .ok false W := by
    unfold isAgg
    rw [Sem.run_bind, run_underlying hu W]
    cases d <;> simp_all
  simp [Sem.run_bind, loadVar, hagg, hc]
theorem results_cell1 {P : Program} {fn : Func} {p : Tmp} {ty : TypeId} (h : fn.results = #[.cell p ty]) (tmps : Array Value) {W : World} {b : Nat} {v : Value} (hp : tmps.getD p undef = .pointer (some ⟨b, 0, none⟩)) (hA : IsOne P ty)
    (hc : W.cell? ⟨b, 0, none⟩ = some v) : (results fn tmps).run P W = .ok v W := by
  have hp' : tmps[p]?.getD undef = .pointer (some ⟨b, 0, none⟩) := by simpa using hp
  simp [results, h, hp', asAddr, run_loadVar_one hA hc]
theorem wp_seq_cut {P : Program} {x y : Code} {Q : Exit → Act → World → Prop} {a : Act} {w : World} (M : Act → World → Prop) (h1 : x.wp P (Exit.then M Q) a w) (h2 : ∀ a w, M a w → y.wp P Q a w) : (Code.seq x y).wp P Q a w :=
  wp_seq (wp_mono h1 (fun e a w h => by cases e <;> first | exact h2 _ _ h | exact h))

theorem addresses_calls (x : Ptr) (w : World) :
    Calls Tryd.prog 21 #[.agg x.cells] w fun e w' => e = .returned (.func (.func 29) #[] #[.pointer (some ⟨w.heap.size, 0, none⟩)]) ∧ w.alloc (.cells x.cells 27) = w' := by
  go_enter Tryd.func21, Tryd.ntmps21
  go_wp2
  go_ret
  exact ⟨rfl, rfl⟩

/-- what may be, but for its places -/
def Ptr.first (x : Ptr) : Bool := decide (1 ≤ x.bi) && decide (x.bi ≤ 1073741824) && (x.meta && x.a0 != x.a1 || x.kd == 3 && x.a1 == 0)
def Ptr.fits1 (size a : Int) : Bool := decide (4 ≤ a) && decide (a < size)
def Ptr.right (x : Ptr) (size : Int) : Bool := x.first && x.addrs.all (Ptr.fits1 size)

/-- the world of ptr.Right, what is right so far -/
structure RightW (w : World) (n0 : Nat) (x : Ptr) (size : Int) (b : Bool) (W : World) : Prop where
  ag : Agrees (fun k => k < n0) w W
  lo : w.heap.size ≤ n0
  ptr : W.heap[n0]? = some (.cells x.cells 27 (0, 0))
  sz : W.heap[n0 + 1]? = some (.cells #[.int .i64 size] 3 (0, 0))
  res : W.heap[n0 + 1 + 1]? = some (.cells #[.bool b] 4 (0, 0))
theorem RightW.set {w : World} {n0 : Nat} {x : Ptr} {size : Int} {b b' v : Bool} {W : World} (h : RightW w n0 x size b' W) (e : b = v) : RightW w n0 x size b (W.setCell ⟨n0 + 1 + 1, 0, none⟩ (.bool v)) := by
  subst e
  refine ⟨h.ag.setCell (.inl (by show ¬ n0 + 1 + 1 < n0; omega)) _, h.lo, ?_, ?_, ?_⟩
  · rw [heap_setCell_other _ _ _ _ (by show n0 ≠ n0 + 1 + 1; omega)]; exact h.ptr
  · rw [heap_setCell_other _ _ _ _ (by show n0 + 1 ≠ n0 + 1 + 1; omega)]; exact h.sz
  · exact heap_setCell_same _ _ 0 _ _ _ h.res
theorem RightW.agrees {w : World} {n0 : Nat} {x : Ptr} {size : Int} {b : Bool} {W W' : World} (h : RightW w n0 x size b W) (g : Agrees (fun k => k < n0 + 3) W W') : RightW w n0 x size b W' := by
  have h1 := (Array.getElem?_eq_some_iff.1 h.ptr).1
  have h2 := (Array.getElem?_eq_some_iff.1 h.sz).1
  have h3 := (Array.getElem?_eq_some_iff.1 h.res).1
  exact ⟨h.ag.trans' g (fun k _ hk => by omega), h.lo, (g.block _ h1 (by omega)).trans h.ptr, (g.block _ h2 (by omega)).trans h.sz, (g.block _ h3 (by omega)).trans h.res⟩
theorem RightW.all {w : World} {n0 : Nat} {x : Ptr} {size : Int} {b : Bool} {W : World} (h : RightW w n0 x size b W) : Agrees All w W :=
  h.ag.mono fun _ hb _ => Nat.lt_of_lt_of_le hb h.lo

theorem oneBool : IsOne Tryd.prog 4 := ⟨⟨_, Tryd.underlying4, rfl⟩, by kernel_rfl⟩

attribute [local go_sem] Oper.semAt_some
set_option maxHeartbeats 2000000 in
set_option maxRecDepth 100000 in
theorem right_calls (x : Ptr) (hx : x.ok) (size : Int) (w : World) : Calls Tryd.prog 13 #[.agg x.cells, .int .i64 size] w fun e w' => e = .returned (.bool (x.right size)) ∧ Agrees All w w' := by
  refine (callsIn_wide (n := 0)).1 (callsIn_of_wp_marks Tryd.func13 rfl trivial (wpIn_wide.2 ?_) rfl)
  simp only [Tryd.ntmps13, List.size_toArray, List.length_cons, List.length_nil, Nat.reduceAdd, Nat.reduceSub, Array.replicate_succ, Array.replicate_zero, List.push_toArray, List.append_toArray, List.nil_append, List.cons_append]
  obtain ⟨W0, hW0⟩ : ∃ W0, ((w.alloc (.cells x.cells 27)).alloc (.cells #[.int .i64 size] 3)).alloc (.cells #[.bool false] 4) = W0 := ⟨_, rfl⟩
  have hs0 : W0.heap.size = w.heap.size + 3 := by rw [← hW0]; simp
  have hA0 : Agrees All w W0 := by rw [← hW0]; exact (((Agrees.refl _ w).alloc _).alloc _).alloc _
  have hb0 : W0.heap[w.heap.size]? = some (.cells x.cells 27 (0, 0)) := by
    rw [← hW0, heap_alloc_old _ _ (by simp; omega), heap_alloc_old _ _ (by simp)]; exact World.alloc_heap_new w _
  have hb1 : W0.heap[w.heap.size + 1]? = some (.cells #[.int .i64 size] 3 (0, 0)) := by
    rw [← hW0, heap_alloc_old _ _ (by simp)]
    have := World.alloc_heap_new (w.alloc (.cells x.cells 27)) (.cells #[.int .i64 size] 3); rwa [World.size_alloc] at this
  have hb2 : W0.heap[w.heap.size + 2]? = some (.cells #[.bool false] 4 (0, 0)) := by
    rw [← hW0]
    have := World.alloc_heap_new ((w.alloc (.cells x.cells 27)).alloc (.cells #[.int .i64 size] 3)) (.cells #[.bool false] 4); rwa [World.size_alloc, World.size_alloc] at this
  have HB0 := Lib.hid hb0
  have HB1 := Lib.hid hb1
  have HB2 := Lib.hid hb2
  clear hb0 hb1 hb2
  go_wp2_with fail
  refine wp_scope_straight ?_
  generalize hn0 : w.heap.size = n0 at *
  obtain ⟨kd, a0, a1, bi, su⟩ := x
  refine wp_seq_cut (fun a W => (∃ u5 u6 u7 u8 u9 u10 u11 u12 u13 u14 u15 u16 u17 u18 u19 u20 u21 u22 u23 u24 u25 u26 u27 u28 u29 u30 u31 u32 u33 u34 u35 u36 u37 u38 u39 u40 u41 u42 u43 u44 u45 u46 u47 u48 u49 u50 u51 u52 u53 : Value, a = { tmps := #[.agg (Ptr.mk kd a0 a1 bi su).cells, .int .i64 size, .pointer (some ⟨n0, 0, none⟩), .pointer (some ⟨n0 + 1, 0, none⟩), .pointer (some ⟨n0 + 1 + 1, 0, none⟩), u5, u6, u7, u8, u9, u10, u11, u12, u13, u14, u15, u16, u17, u18, u19, u20, u21, u22, u23, u24, u25, u26, u27, u28, u29, u30, u31, u32, u33, u34, u35, u36, u37, u38, u39, u40, u41, u42, u43, u44, u45, u46, u47, u48, u49, u50, u51, u52, u53], defers := [] }) ∧ RightW w n0 ⟨kd, a0, a1, bi, su⟩ size (Ptr.mk kd a0 a1 bi su).first W) ?part1 ?part2
  case part1 =>
    have hm := fun W => meta_calls ⟨kd, a0, a1, bi, su⟩ W
    have hR0 : RightW w n0 ⟨kd, a0, a1, bi, su⟩ size false W0 := ⟨hA0.weak, Nat.le_of_eq hn0, HB0.out, HB1.out, HB2.out⟩
    clear hA0 HB0 HB1 HB2 hW0 hx
    simp only [Ptr.first]
    generalize hmt : (Ptr.mk kd a0 a1 bi su).meta = mt at *
    obtain ⟨c0, c1, c2, c3, c4⟩ := ptr_at hR0.ptr
    have hc5 : W0.cell? ⟨n0 + 1 + 1, 0, none⟩ = some (.bool false) := cell_of_row W0 _ 0 _ _ _ hR0.res
    have hf5 : W0.frozen? ⟨n0 + 1 + 1, 0, none⟩ = false := frozen_of_row W0 _ 0 _ _ hR0.res
    have HM := Lib.hid hm
    have HR0 := Lib.hid hR0
    clear hm hR0
    go_wp2_with fail
    · refine (HM.out _).mono ?_
      rintro e W1 ⟨rfl, hag1⟩
      have hR1 := HR0.out.agrees hag1.weak
      obtain ⟨d0, d1, d2, d3, d4⟩ := ptr_at hR1.ptr
      have hd5 : W1.cell? ⟨n0 + 1 + 1, 0, none⟩ = some (.bool false) := cell_of_row W1 _ 0 _ _ _ hR1.res
      have hdf : W1.frozen? ⟨n0 + 1 + 1, 0, none⟩ = false := frozen_of_row W1 _ 0 _ _ hR1.res
      have HR1 := Lib.hid hR1
      clear hR1 c0 c1 c2 c3 c4 hc5 hf5
      cases mt
      all_goals
        go_wp2_with fail
        all_goals
          (repeat apply Exists.intro)
          refine ⟨?fr2, ?rel2⟩
          case fr2 =>
            simp
            repeat (first | exact rfl | refine ⟨rfl, ?_⟩)
            try simp_all
          case rel2 =>
            refine HR1.out.set ?_
            clear HR1 HR0 HM d0 d1 d2 d3 d4 hd5 hdf
            simp_all
    all_goals
      refine HR0.out.set ?_
      clear HR0 HM c0 c1 c2 c3 c4 hc5 hf5
      simp_all
      try omega
  case part2 =>
    rintro a W ⟨⟨u5, u6, u7, u8, u9, u10, u11, u12, u13, u14, u15, u16, u17, u18, u19, u20, u21, u22, u23, u24, u25, u26, u27, u28, u29, u30, u31, u32, u33, u34, u35, u36, u37, u38, u39, u40, u41, u42, u43, u44, u45, u46, u47, u48, u49, u50, u51, u52, u53, rfl⟩, hR⟩
    refine wp_seq (wp_label ?_)
    have HR := Lib.hid hR
    have hb := (Array.getElem?_eq_some_iff.1 hR.res).1
    obtain ⟨c0, c1, c2, c3, c4⟩ := ptr_at hR.ptr
    clear hR hA0 HB0 HB1 HB2 hW0 hs0
    simp only [Exit.then]
    go_wp2_with (go_at_call 21; refine (addresses_calls ⟨kd, a0, a1, bi, su⟩ _).mono ?_; rintro e w' ⟨rfl, rfl⟩)
    obtain ⟨W2, hW2⟩ : ∃ W2, W.alloc (.cells (Ptr.mk kd a0 a1 bi su).cells 27) = W2 := ⟨_, rfl⟩
    have hR2 : RightW w n0 ⟨kd, a0, a1, bi, su⟩ size (Ptr.mk kd a0 a1 bi su).first W2 := by rw [← hW2]; exact HR.out.agrees ((Agrees.refl _ W).alloc _)
    have hbox : W2.heap[W.heap.size]? = some (.cells (Ptr.mk kd a0 a1 bi su).cells 27 (0, 0)) := by rw [← hW2]; exact World.alloc_heap_new W _
    have hbl := (Array.getElem?_eq_some_iff.1 hbox).1
    rw [hW2]
    have hgo : ∀ (b : Bool) (W3 W4 : World), RightW w n0 ⟨kd, a0, a1, bi, su⟩ size b W3 → Agrees (fun b => (fun b => b = n0 + 1 + 1) b ∨ b < n0 + 2) W3 W4 → RightW w n0 ⟨kd, a0, a1, bi, su⟩ size b W4 := fun b W3 W4 h g => h.agrees (g.mono fun k _ hk => by
      by_cases e : k = n0 + 1 + 1
      · exact .inl e
      · exact .inr (by omega))
    refine wp_rangeFunc_iter rfl (Go.Proofs.enters_of Tryd.func29 (by kernel_rfl) rfl) (addresses1_iter (fun b => b = W.heap.size) (n0 + 2) W2 W.heap.size ⟨kd, a0, a1, bi, su⟩ hx hbox rfl (fun b hb => by rw [hb]; exact hbl))
      (Agrees.refl _ _) (fun b hb => by rw [hb]; exact hbl) (by have := (Array.getElem?_eq_some_iff.1 hR2.res).1; omega) (fun _ => rfl)
      (fun b => b = n0 + 1 + 1) (fun b hb => by have := (Array.getElem?_eq_some_iff.1 hR2.res).1; exact ⟨by omega, by omega⟩)
      (fun k C W' => C = (fun b => b = n0 + 1 + 1) ∧ RightW w n0 ⟨kd, a0, a1, bi, su⟩ size ((Ptr.mk kd a0 a1 bi su).first && ((Ptr.mk kd a0 a1 bi su).addrs.take k).all (Ptr.fits1 size)) W')
      (fun c _ C W' => C = (fun b => b = n0 + 1 + 1) ∧ c = .exit 0 ∧ RightW w n0 ⟨kd, a0, a1, bi, su⟩ size ((Ptr.mk kd a0 a1 bi su).right size) W')
      ?stabI ?stabX ⟨rfl, by simpa using hR2⟩
      (fun k => { tmps := #[.agg (Ptr.mk kd a0 a1 bi su).cells, .int .i64 size, .pointer (some ⟨n0, 0, none⟩), .pointer (some ⟨n0 + 1, 0, none⟩), .pointer (some ⟨n0 + 1 + 1, 0, none⟩), .int .i64 ((Ptr.mk kd a0 a1 bi su).addrs.getD k 0), u6, u7, u8, u9, u10, u11, u12, u13, u14, u15, u16, u17, u18, u19, u20, u21, u22, u23, u24, u25, u26, u27, u28, u29, u30, u31, u32, u33, u34, u35, u36, u37, .agg #[.int .u8 kd, .int .u16 a0, .int .u16 a1, .int .u32 bi, U su], .func (.func 29) #[] #[.pointer (some ⟨W.heap.size, 0, none⟩)], .int .i64 ((Ptr.mk kd a0 a1 bi su).addrs.getD k 0), u41, u42, u43, u44, u45, u46, u47, u48, u49, u50, u51, u52, u53], defers := [] })
      ?assign ?body ?done ?stop
    case stabI =>
      rintro k C W3 W4 ⟨rfl, h⟩ hag
      exact ⟨rfl, hgo _ _ _ h hag⟩
    case stabX =>
      rintro c k C W3 W4 ⟨rfl, hc, h⟩ hag
      exact ⟨rfl, hc, hgo _ _ _ h hag⟩
    case assign =>
      intro l k W K hK
      generalize (Ptr.mk kd a0 a1 bi su).addrs.getD k 0 = av at *
      gi_wp2
      exact hK
    case body =>
      rintro l k C W' hk ⟨rfl, hI⟩ hCW hsz
      have hsuc : ((Ptr.mk kd a0 a1 bi su).first && ((Ptr.mk kd a0 a1 bi su).addrs.take (k + 1)).all (Ptr.fits1 size)) = (((Ptr.mk kd a0 a1 bi su).first && ((Ptr.mk kd a0 a1 bi su).addrs.take k).all (Ptr.fits1 size)) && Ptr.fits1 size ((Ptr.mk kd a0 a1 bi su).addrs.getD k 0)) := by
        rw [List.take_succ_eq_append_getElem hk, List.all_append, List.getD_eq_getElem?_getD, List.getElem?_eq_getElem hk]
        simp [Bool.and_assoc]
      have hfin : Ptr.fits1 size ((Ptr.mk kd a0 a1 bi su).addrs.getD k 0) = false ∨ ((Ptr.mk kd a0 a1 bi su).first && ((Ptr.mk kd a0 a1 bi su).addrs.take k).all (Ptr.fits1 size)) = false → (Ptr.mk kd a0 a1 bi su).right size = false := by
        intro hor
        unfold Ptr.right
        cases hr : (Ptr.mk kd a0 a1 bi su).first && (Ptr.mk kd a0 a1 bi su).addrs.all (Ptr.fits1 size) with
        | false => rfl
        | true =>
          exfalso
          rw [Bool.and_eq_true, List.all_eq_true] at hr
          rcases hor with h | h
          · have := hr.2 ((Ptr.mk kd a0 a1 bi su).addrs.getD k 0) (by rw [List.getD_eq_getElem?_getD, List.getElem?_eq_getElem hk]; exact List.getElem_mem hk)
            rw [h] at this; cases this
          · rw [hr.1, Bool.true_and, List.all_eq_false] at h
            obtain ⟨y, hy, hf⟩ := h
            exact hf (hr.2 y (List.mem_of_mem_take hy))
      generalize hbk : ((Ptr.mk kd a0 a1 bi su).first && ((Ptr.mk kd a0 a1 bi su).addrs.take k).all (Ptr.fits1 size)) = bk at *
      generalize (Ptr.mk kd a0 a1 bi su).addrs.getD k 0 = av at *
      have d5 : W'.cell? ⟨n0 + 1 + 1, 0, none⟩ = some (.bool bk) := cell_of_row W' _ 0 _ _ _ hI.res
      have d5f : W'.frozen? ⟨n0 + 1 + 1, 0, none⟩ = false := frozen_of_row W' _ 0 _ _ hI.res
      have d3 : W'.cell? ⟨n0 + 1, 0, none⟩ = some (.int .i64 size) := cell_of_row W' _ 0 _ _ _ hI.sz
      have HI := Lib.hid hI
      have HSUC := Lib.hid hsuc
      have HFIN := Lib.hid hfin
      clear hI hsuc hfin hbk c0 c1 c2 c3 c4 hR2 hgo
      gi_wp2
      · refine ⟨(Agrees.refl _ W').setCell (.inl (fun h => h rfl)) _, _, ⟨rfl, rfl, HI.out.set ?_⟩, fun b hb => ⟨by have := hCW b hb; simpa [World.setCell] using this, .inl hb⟩⟩
        have hf := HFIN.out
        clear HI HFIN HSUC d5 d5f d3 hCW
        simp_all [Ptr.fits1]
      · refine ⟨(Agrees.refl _ W').setCell (.inl (fun h => h rfl)) _, _, ⟨rfl, HI.out.set ?_⟩, fun b hb => ⟨by have := hCW b hb; simpa [World.setCell] using this, .inl hb⟩⟩
        rw [HSUC.out]
        clear HI HFIN HSUC d5 d5f d3 hCW
        simp_all [Ptr.fits1]
      · refine ⟨(Agrees.refl _ W').setCell (.inl (fun h => h rfl)) _, _, ⟨rfl, rfl, HI.out.set ?_⟩, fun b hb => ⟨by have := hCW b hb; simpa [World.setCell] using this, .inl hb⟩⟩
        have hf := HFIN.out
        clear HI HFIN HSUC d5 d5f d3 hCW
        simp_all [Ptr.fits1]
        exact hf (by omega)
      · refine ⟨(Agrees.refl _ W').setCell (.inl (fun h => h rfl)) _, _, ⟨rfl, rfl, HI.out.set ?_⟩, fun b hb => ⟨by have := hCW b hb; simpa [World.setCell] using this, .inl hb⟩⟩
        have hf := HFIN.out
        clear HI HFIN HSUC d5 d5f d3 hCW
        have hb0 : bk = false := by simpa using ‹¬bk = true›
        exact (hf (.inr hb0)).trans (by first | rfl | exact hb0.symm)
    case done =>
      rintro D C W' hD ⟨rfl, h⟩ hK hCD
      rw [List.take_length] at h
      have d5 : W'.cell? ⟨n0 + 1 + 1, 0, none⟩ = some (.bool ((Ptr.mk kd a0 a1 bi su).right size)) := cell_of_row W' _ 0 _ _ _ h.res
      have d5f : W'.frozen? ⟨n0 + 1 + 1, 0, none⟩ = false := frozen_of_row W' _ 0 _ _ h.res
      have hset : RightW w n0 ⟨kd, a0, a1, bi, su⟩ size ((Ptr.mk kd a0 a1 bi su).right size) (W'.setCell ⟨n0 + 1 + 1, 0, none⟩ (.bool ((Ptr.mk kd a0 a1 bi su).right size))) := h.set rfl
      have HK : RowKit.Hid ((W'.setCell ⟨n0 + 1 + 1, 0, none⟩ (.bool ((Ptr.mk kd a0 a1 bi su).right size))).heap[D]? = some (.deferred (some []))) := by
        rw [heap_setCell_other _ _ _ _ (fun e => hCD e)]; exact hK
      have HS := Lib.hid hset
      have HCD := Lib.hid hCD
      have HDn := Lib.hid (show w.heap.size ≤ D by omega)
      generalize hr : (Ptr.mk kd a0 a1 bi su).right size = r at *
      have HRR := Lib.hid hr
      clear h hset hK c0 c1 c2 c3 c4 hR2 hgo hCD hr
      go_wp2
      refine ⟨by simp, .inl ⟨_, _, rfl, run_takeDeferred HK.out, ?_⟩⟩
      refine ⟨_, results_cell1 rfl _ (b := n0 + 1 + 1) rfl oneBool (cell_of_row _ _ 0 _ _ _ ((World.putObj_heap_other (fun e => HCD.out e.symm)).trans HS.out.res)), ?_⟩
      exact ⟨by rw [HRR.out]; rfl, HS.out.all.putObj (.inr HDn.out) _⟩
    case stop =>
      rintro D k c C W' hD hk ⟨rfl, rfl, h⟩ hK hCD
      have d5 : W'.cell? ⟨n0 + 1 + 1, 0, none⟩ = some (.bool ((Ptr.mk kd a0 a1 bi su).right size)) := cell_of_row W' _ 0 _ _ _ h.res
      have d5f : W'.frozen? ⟨n0 + 1 + 1, 0, none⟩ = false := frozen_of_row W' _ 0 _ _ h.res
      have hset : RightW w n0 ⟨kd, a0, a1, bi, su⟩ size ((Ptr.mk kd a0 a1 bi su).right size) (W'.setCell ⟨n0 + 1 + 1, 0, none⟩ (.bool ((Ptr.mk kd a0 a1 bi su).right size))) := h.set rfl
      have HK : RowKit.Hid ((W'.setCell ⟨n0 + 1 + 1, 0, none⟩ (.bool ((Ptr.mk kd a0 a1 bi su).right size))).heap[D]? = some (.deferred (some []))) := by
        rw [heap_setCell_other _ _ _ _ (fun e => hCD e)]; exact hK
      have HS := Lib.hid hset
      have HCD := Lib.hid hCD
      have HDn := Lib.hid (show w.heap.size ≤ D by omega)
      generalize hr : (Ptr.mk kd a0 a1 bi su).right size = r at *
      have HRR := Lib.hid hr
      clear h hset hK c0 c1 c2 c3 c4 hR2 hgo hCD hr
      go_wp2
      refine ⟨by simp, .inl ⟨_, _, rfl, run_takeDeferred HK.out, ?_⟩⟩
      refine ⟨_, results_cell1 rfl _ (b := n0 + 1 + 1) rfl oneBool (cell_of_row _ _ 0 _ _ _ ((World.putObj_heap_other (fun e => HCD.out e.symm)).trans HS.out.res)), ?_⟩
      exact ⟨by rw [HRR.out]; rfl, HS.out.all.putObj (.inr HDn.out) _⟩
end Suture
