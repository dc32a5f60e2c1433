/-
  POINTERS: ptr.None, ptr.Where.
  Conditions: none.
-/
import Derived.Test.YtmkbchhmeaefeaaDoorPtrOf
import Derived.Maps.AppendAt
namespace Suture
open Go Go.RowKit Go.Proofs
attribute [local go_sem] Oper.semAt_some

theorem ex_append {P : Program} {o : Oper} {a : Act} {w w' : World} {s x : Operand} {t : TypeId} {vs vx v' : Value} (ho : o.op = .call { callee := .builtin .append, args := #[s, x], argTypes := #[t, t] }) (es : a.eval s = vs) (ex : a.eval x = vx)
    (h : (Builtin.append_ #[t, t] o.type #[vs, vx]).run P w = .ok v' w') : (execOp a.eval o).run P w = .ok (.value v') w' := by
  simp [execOp, ho, resolve, invoke, builtin, es, ex, h, Result.andThen]
theorem setCell_self {W : World} {b : Nat} {v : Value} {t : TypeId} (h : W.heap[b]? = some (.cells #[v] t (0, 0))) : W.setCell ⟨b, 0, none⟩ v = W := by
  rw [setCell_eq_setRow W b 0 #[v] t (0, 0) v h]
  exact setRow_self W b _ t (0, 0) h
theorem ownsRow_base {W : World} {base base' : Nat} {e : TypeId} {size n : Nat} {v : Value} {xs : List Value} (h : W.ownsRow base e size v n xs) (hb : base' ≤ base) : W.ownsRow base' e size v n xs := by
  refine ⟨h.1, ?_⟩
  rcases h.2 with hn | ⟨g, cap, cur, rfl, h1, hr⟩
  · exact .inl hn
  · exact .inr ⟨g, cap, cur, rfl, Nat.le_trans hb h1, hr⟩
theorem ownsRow_put {W : World} {base D : Nat} {e : TypeId} {size n : Nat} {v : Value} {xs : List Value} (h : W.ownsRow base e size v n xs) (hD : v.ownBlock ≠ some D) (o : Obj) : (W.putObj D o).ownsRow base e size v n xs := by
  refine ⟨h.1, ?_⟩
  rcases h.2 with hn | ⟨g, cap, cur, rfl, h1, h2, hr⟩
  · exact .inl hn
  · exact .inr ⟨g, cap, cur, rfl, h1, (World.putObj_heap_other (fun e => hD (by simp [Value.ownBlock, e]))).trans h2, hr⟩
/-- the world of a list that grows in a box -/
structure ListW (w : World) (n0 box : Nat) (bt et : TypeId) (xs : List Value) (W : World) (v : Value) : Prop where
  ag : Agrees (fun k => k < n0) w W
  lo : w.heap.size ≤ n0 ∧ n0 ≤ box
  row : W.heap[box]? = some (.cells #[v] bt (0, 0))
  own : W.ownsRow (box + 1) et 1 v xs.length xs
theorem ListW.sta {w : World} {n0 box : Nat} {bt et : TypeId} {xs : List Value} {W W' : World} {v : Value} (h : ListW w n0 box bt et xs W v) (g : Agrees (fun k => (k = box ∨ v.ownBlock = some k) ∨ k < n0) W W') : ListW w n0 box bt et xs W' v := by
  have h1 := (Array.getElem?_eq_some_iff.1 h.row).1
  refine ⟨h.ag.trans' g (fun _ _ hk => .inr hk), h.lo, (g.block _ h1 (.inl (.inl rfl))).trans h.row, h.own.1, ?_⟩
  rcases h.own.2 with hn | ⟨gb, cap, cur, rfl, hb, hg, hr⟩
  · exact .inl hn
  · exact .inr ⟨gb, cap, cur, rfl, hb, (g.block _ (Array.getElem?_eq_some_iff.1 hg).1 (.inl (.inr rfl))).trans hg, hr⟩
theorem ListW.all {w : World} {n0 box : Nat} {bt et : TypeId} {xs : List Value} {W : World} {v : Value} (h : ListW w n0 box bt et xs W v) : Agrees All w W :=
  h.ag.mono fun _ hb _ => Nat.lt_of_lt_of_le hb h.lo.1
/-- one more, behind the append -/
theorem ListW.push {w : World} {n0 box : Nat} {bt et : TypeId} {xs : List Value} {W W1 : World} {v v' y : Value} (h : ListW w n0 box bt et xs W v) (o : Obj) (hown : W1.ownsRow (box + 1) et 1 v' (xs.length + 1) (xs ++ [y])) (hg : (W.alloc o).grownBy W1 v.ownBlock) :
    ListW w n0 box bt et (xs ++ [y]) (W1.setCell ⟨box, 0, none⟩ v') v' := by
  have h1 := (Array.getElem?_eq_some_iff.1 h.row).1
  have hlo := h.lo
  have hob : ∀ b, v.ownBlock = some b → box + 1 ≤ b := fun b hb => (h.own.lt b hb).1
  have hg1 : Agrees (fun k => k < box + 1) W W1 := by
    refine ⟨hg.os, hg.tape, hg.output, Nat.le_trans (by simp) hg.size, fun b hb hlt => ?_⟩
    rw [hg.block b (by simp; omega) (fun e => by have := hob b e.symm; omega)]
    exact heap_alloc_old _ _ hb
  refine ⟨(h.ag.trans' hg1 (fun k _ hk => by omega)).setCell (.inl (by show ¬ box < n0; omega)) _, hlo, ?_, ?_⟩
  · exact heap_setCell_same _ _ 0 _ _ _ ((hg1.block _ h1 (by omega)).trans h.row)
  · rw [show (xs ++ [y]).length = xs.length + 1 by simp]
    refine ⟨hown.1, ?_⟩
    rcases hown.2 with hn | ⟨gb, cap, cur, rfl, hb, hgg, hr⟩
    · exact .inl hn
    · exact .inr ⟨gb, cap, cur, rfl, hb, (heap_setCell_other _ _ _ _ (by show gb ≠ box; omega)).trans hgg, hr⟩

theorem Ptr.addrs_le (x : Ptr) : x.addrs.length ≤ 2 := by
  unfold Ptr.addrs
  split
  · simp
  · split <;> simp
theorem infoInt : (Tryd.prog.info? 3).map (fun i => (i.zero, i.size, i.bytes)) = some (some (.int .i64 0), 1, 8) := by kernel_rfl
theorem oneInts : IsOne Tryd.prog 44 := ⟨⟨_, Tryd.underlying44, rfl⟩, by kernel_rfl⟩
def ints (l : List Int) : List Value := l.map (.int .i64 ·)

set_option maxHeartbeats 2000000 in
set_option maxRecDepth 100000 in
theorem where_calls (x : Ptr) (hx : x.ok) (w : World) : Calls Tryd.prog 14 #[.agg x.cells] w fun e w' => ∃ v, e = .returned v ∧ w'.ownsRow w.heap.size 3 1 v x.addrs.length (ints x.addrs) ∧ Agrees All w w' := by
  refine (callsIn_wide (n := 0)).1 (callsIn_of_wp_marks Tryd.func14 rfl trivial (wpIn_wide.2 ?_) rfl)
  simp only [Tryd.ntmps14, List.size_toArray, List.length_cons, List.length_nil, Nat.reduceAdd, Nat.reduceSub, Array.replicate_succ, Array.replicate_zero, List.push_toArray, List.append_toArray, List.nil_append, List.cons_append]
  obtain ⟨W0, hW0⟩ : ∃ W0, (w.alloc (.cells x.cells 27)).alloc (.cells #[.slice none 0 0] 44) = W0 := ⟨_, rfl⟩
  have hs0 : W0.heap.size = w.heap.size + 2 := by rw [← hW0]; simp
  have hA0 : Agrees All w W0 := by rw [← hW0]; exact ((Agrees.refl _ w).alloc _).alloc _
  have hb0 : W0.heap[w.heap.size]? = some (.cells x.cells 27 (0, 0)) := by rw [← hW0, heap_alloc_old _ _ (by simp)]; exact World.alloc_heap_new w _
  have hb1 : W0.heap[w.heap.size + 1]? = some (.cells #[.slice none 0 0] 44 (0, 0)) := by
    rw [← hW0]; have := World.alloc_heap_new (w.alloc (.cells x.cells 27)) (.cells #[.slice none 0 0] 44); rwa [World.size_alloc] at this
  have HA := Lib.hid hA0
  have HB0 := Lib.hid hb0
  have HB1 := Lib.hid hb1
  clear hA0 hb0 hb1
  go_wp2_with (first | (go_at_call 21; refine (addresses_calls x _).mono ?_; rintro e w' ⟨rfl, rfl⟩) | (refine wpList_val rfl (ex_load (ty := 27) rfl isAgg_ptr w.heap.size 0 rfl x.cells rfl (x.load HB0.out)) ?_))
  obtain ⟨W2, hW2⟩ : ∃ W2, W0.alloc (.cells x.cells 27) = W2 := ⟨_, rfl⟩
  have hs2 : W2.heap.size = w.heap.size + 3 := by rw [← hW2]; simp [hs0]
  have hL : ListW w (w.heap.size + 1) (w.heap.size + 1) 44 3 [] W2 (.slice none 0 0) := by
    rw [← hW2]
    exact ⟨(HA.out.alloc _).weak, ⟨by omega, Nat.le_refl _⟩, (heap_alloc_old _ _ (by omega)).trans HB1.out, World.ownsRow_nil _ _ _ _⟩
  have hbox : W2.heap[w.heap.size + 2]? = some (.cells x.cells 27 (0, 0)) := by rw [← hW2, ← hs0]; exact World.alloc_heap_new W0 _
  have HL := Lib.hid hL
  clear hL HB0 HB1 hW0
  have hW2' := Lib.hid hW2
  rw [hW2]
  clear hW2
  have hbl := (Array.getElem?_eq_some_iff.1 hbox).1
  obtain ⟨i0, hi0, hz0, hz1, hz2⟩ := info_parts infoInt
  have hle := x.addrs_le
  refine wp_rangeFunc_iter rfl (Go.Proofs.enters_of Tryd.func29 (by kernel_rfl) rfl) (addresses1_iter (fun b => b = w.heap.size + 2) (w.heap.size + 1) W2 (w.heap.size + 2) x hx hbox rfl (fun b hb => by rw [hb]; exact hbl))
    (Agrees.refl _ _) (fun b hb => by rw [hb]; exact hbl) (by omega) (fun _ => rfl)
    (fun b => b = w.heap.size + 1) (fun b hb => ⟨by omega, by omega⟩)
    (fun k C W => ∃ v, C = (fun b => b = w.heap.size + 1 ∨ v.ownBlock = some b) ∧ ListW w (w.heap.size + 1) (w.heap.size + 1) 44 3 (ints (x.addrs.take k)) W v)
    (fun _ _ _ _ => False) ?stabI ?stabX ⟨.slice none 0 0, by funext b; simp [Value.ownBlock], by simpa [ints] using HL.out⟩
    (fun k => { tmps := #[.agg x.cells, .pointer (some ⟨w.heap.size, 0, none⟩), .pointer (some ⟨w.heap.size + 1, 0, none⟩), .int .i64 (x.addrs.getD k 0), .agg x.cells, .func (.func 29) #[] #[.pointer (some ⟨w.heap.size + 2, 0, none⟩)], .int .i64 (x.addrs.getD k 0), undef, undef, undef, undef, undef], defers := [] })
    ?assign ?body ?done ?stop
  case stabI =>
    rintro k C W W' ⟨v, rfl, h⟩ hag
    exact ⟨v, rfl, h.sta hag⟩
  case stabX => exact fun _ _ _ _ _ h _ => h
  case assign =>
    intro l k W K hK
    generalize x.addrs.getD k 0 = av at *
    gi_wp2
    exact hK
  case body =>
    rintro l k C W hk ⟨v, rfl, hI⟩ hCW hsz
    have hsuc : ints (x.addrs.take (k + 1)) = ints (x.addrs.take k) ++ [.int .i64 (x.addrs.getD k 0)] := by
      unfold ints
      rw [List.take_succ_eq_append_getElem hk, List.map_append, List.getD_eq_getElem?_getD, List.getElem?_eq_getElem hk]
      rfl
    have hxl : (ints (x.addrs.take k)).length = k := by simp [ints]; omega
    generalize x.addrs.getD k 0 = av at *
    generalize hxs : ints (x.addrs.take k) = xs at *
    have d1 : W.cell? ⟨w.heap.size + 1, 0, none⟩ = some v := cell_of_row W _ 0 _ _ _ hI.row
    have d1f : W.frozen? ⟨w.heap.size + 1, 0, none⟩ = false := frozen_of_row W _ 0 _ _ hI.row
    obtain ⟨v', W1, hrun, hown, hgrow, _, hat⟩ := run_append_own_at (P := Tryd.prog) (W.alloc (.cells #[.int .i64 av] 3)) (w.heap.size + 2) 44 44 3 i0 (.int .i64 0) 1 8 Tryd.underlying44 hi0 hz0 hz1 hz2 rfl (by decide)
      v xs.length xs (hI.own.alloc _) ⟨W.heap.size, 0, none⟩ 1 1 [.int .i64 av] rfl (by intro j' u hu; rw [addr_add, cell_of_row _ _ _ _ _ _ (World.alloc_heap_new W _)]; rw [Nat.zero_add, List.getElem?_toArray]; exact hu) (by intro u hu; obtain rfl := List.mem_singleton.1 hu; rfl)
      (by simp only [maxLen]; omega) (by omega) (by simp; omega)
    have hP := Lib.hid (hI.push _ hown hgrow)
    have hob := hI.own.lt
    have h1b : w.heap.size + 1 < W.heap.size := (Array.getElem?_eq_some_iff.1 hI.row).1
    have hag1 : Agrees (fun b => ¬ (b = w.heap.size + 1 ∨ v.ownBlock = some b)) W W1 := by
      refine ⟨hgrow.os, hgrow.tape, hgrow.output, Nat.le_trans (by simp) hgrow.size, fun b hb hn => ?_⟩
      rw [hgrow.block b (by simp; omega) (fun e => hn (.inr e.symm))]
      exact heap_alloc_old _ _ hb
    have hrow1 : W1.heap[w.heap.size + 1]? = some (.cells #[v] 44 (0, 0)) := by
      rw [hgrow.block _ (by simp; omega) (fun e => by have := (hob _ e.symm).1; omega), heap_alloc_old _ _ h1b]
      exact hI.row
    have e1 : W1.cell? ⟨w.heap.size + 1, 0, none⟩ = some v := cell_of_row W1 _ 0 _ _ _ hrow1
    have e1f : W1.frozen? ⟨w.heap.size + 1, 0, none⟩ = false := frozen_of_row W1 _ 0 _ _ hrow1
    have ho1 : v'.oneCell' = true := by
      rcases hown.2 with hn | ⟨_, _, _, rfl, _⟩
      · rw [hn.1]; rfl
      · rfl
    have hst : (store ⟨w.heap.size + 1, 0, none⟩ v').run Tryd.prog W1 = .ok () (W1.setCell ⟨w.heap.size + 1, 0, none⟩ v') := by
      rw [run_store _ _ _ _ _ ho1, e1]
      simp [e1f]
    have hnew : ∀ b, v'.ownBlock = some b → v.ownBlock = some b ∨ W.heap.size < b + 1 := by
      intro b hb
      rcases hat with h | h
      · rw [h] at hb; exact .inl hb
      · rw [h] at hb; simp at hb; exact .inr (by omega)
    have hlt1 : ∀ b, v'.ownBlock = some b → b < W1.heap.size := fun b hb => (hown.lt b hb).2
    have hgs := hgrow.size
    have HI := Lib.hid hI
    have HH := Lib.hid (And.intro hag1 (And.intro hnew (And.intro hlt1 hgs)))
    have HR := Lib.hid hrun
    have HO := Lib.hid hob
    clear hI hown hgrow hat hag1 hnew hlt1 hgs hrun hob hrow1 hxs hi0 hz0 hz1 hz2 hbox hbl
    gi_wp2_with (first
      | (refine wpListIn_val (fun _ => trivial) rfl rfl (ex_load1 (ty := 44) rfl oneInts rfl d1) ?_)
      | (refine wpListIn_val (fun _ => trivial) rfl rfl (ex_append rfl rfl rfl HR.out) ?_))
    refine ⟨HH.out.1.setCell (.inl (fun h => h (.inl rfl))) _, _, ⟨v', rfl, ?_⟩, fun b hb => ?_⟩
    · rw [hsuc]; exact hP.out
    · have hb2 : b < W1.heap.size ∧ (v.ownBlock = some b ∨ b = w.heap.size + 1 ∨ W.heap.size ≤ b) := by
        rcases hb with rfl | hb
        · have := HH.out.2.2.2; simp at this; exact ⟨by omega, .inr (.inl rfl)⟩
        · refine ⟨HH.out.2.2.1 b hb, ?_⟩
          rcases HH.out.2.1 b hb with h | h
          · exact .inl h
          · exact .inr (.inr (by omega))
      refine ⟨by simpa [World.setCell] using hb2.1, ?_⟩
      rcases hb2.2 with h | h | h
      · exact .inl (.inr h)
      · exact .inl (.inl h)
      · exact .inr h
  case done =>
    rintro D C W hD ⟨v, rfl, h⟩ hK hCD
    rw [List.take_length] at h
    have d1 : W.cell? ⟨w.heap.size + 1, 0, none⟩ = some v := cell_of_row W _ 0 _ _ _ h.row
    have d1f : W.frozen? ⟨w.heap.size + 1, 0, none⟩ = false := frozen_of_row W _ 0 _ _ h.row
    have ho1 : v.oneCell' = true := by
      rcases h.own.2 with hn | ⟨_, _, _, rfl, _⟩
      · rw [hn.1]; rfl
      · rfl
    have hst : (store ⟨w.heap.size + 1, 0, none⟩ v).run Tryd.prog W = .ok () W := by
      rw [run_store _ _ _ _ _ ho1, d1, setCell_self h.row]
      simp [d1f]
    have HH := Lib.hid h
    have HK := Lib.hid hK
    have HD := Lib.hid (show w.heap.size + 3 ≤ D by omega)
    have HCD := Lib.hid hCD
    clear h hK hCD hi0 hz0 hz1 hz2 hbox hbl
    go_wp2_with (refine wpList_val rfl (ex_load1 (ty := 44) rfl oneInts rfl d1) ?_)
    refine ⟨by simp, .inl ⟨_, _, rfl, run_takeDeferred HK.out, ?_⟩⟩
    have hne : w.heap.size + 1 ≠ D := by have := HD.out; omega
    refine ⟨_, results_cell1 rfl _ (b := w.heap.size + 1) rfl oneInts (cell_of_row _ _ 0 _ _ _ ((World.putObj_heap_other hne).trans HH.out.row)), ?_⟩
    refine ⟨v, rfl, ?_, HH.out.all.putObj (.inr (by have := HD.out; omega)) _⟩
    have := ownsRow_put (ownsRow_base HH.out.own (show w.heap.size ≤ w.heap.size + 1 + 1 by omega)) (fun e => HCD.out (.inr e)) (.deferred none)
    rwa [show (ints x.addrs).length = x.addrs.length by simp [ints]] at this
  case stop =>
    rintro D k c C W _ _ h
    exact h.elim
end Suture
