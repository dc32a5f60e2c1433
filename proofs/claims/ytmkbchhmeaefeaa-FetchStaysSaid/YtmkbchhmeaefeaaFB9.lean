/-
  A PLACE ON A DISK, A DISK COPIED, as the document says: sutureref03.at, sutureref03.Copy.
  Conditions: none beyond the disk's own reading; its lists are not longer than 9000.
-/
import Derived.Test.YtmkbchhmeaefeaaFB8
import Derived.Great.BuildSlice
namespace Suture
open Go Go.RowKit Go.Proofs
attribute [local go_sem] Oper.semAt_some

set_option maxHeartbeats 1000000 in
theorem rat_calls (v : DV) (d : Disk) (at' : Int) (w : World) (hv : DiskAt All w v d) :
    Calls Try.prog 48 #[.agg v.cells, .int .i64 at'] w fun e w' => e = .returned (.int .i64 (d.asked at')) ∧ Agrees All w w' := by
  obtain ⟨W1, hW1⟩ : ∃ W1, w.alloc (.cells v.cells 37) = W1 := ⟨_, rfl⟩
  have hA1 : Agrees All w W1 := by rw [← hW1]; exact (Agrees.refl _ w).alloc _
  have hr1 : W1.heap[w.heap.size]? = some (.cells v.cells 37 (0, 0)) := by rw [← hW1]; exact World.alloc_heap_new w _
  have HM := Lib.hid (rmay_calls v d W1 (hv.agrees hA1 fun _ h => h))
  have HA1 := Lib.hid hA1
  have HR1 := Lib.hid hr1
  have HPN := Lib.hid hv.pn
  have HOFF := Lib.hid hv.off
  clear hA1 hr1 hv
  go_enter Try.func48, Try.ntmps48
  go_wp2_with (refine wpList_val rfl (ex_load (ty := 37) rfl isAgg_disk w.heap.size 0 rfl v.cells rfl (v.load HR1.out)) ?_)
  refine HM.out.mono ?_
  rintro e W2 ⟨rfl, hag⟩
  have HA2 := Lib.hid (HA1.out.trans hag)
  have hr2 := (hag.block _ (Array.getElem?_eq_some_iff.1 HR1.out).1 trivial).trans HR1.out
  obtain ⟨pa, pn, pc, ca, cn, cc, ba, bn, bc, off⟩ := v
  have c0 : W2.cell? ⟨w.heap.size, 0, none⟩ = some (.slice pa pn pc) := by rw [cell_of_row _ _ _ _ _ _ hr2]; rfl
  have c3 : W2.cell? ⟨w.heap.size, 3, none⟩ = some (.bool off) := by rw [cell_of_row _ _ _ _ _ _ hr2]; rfl
  have HE : RowKit.Hid (d.asked at' = if !d.may || decide (at' < 0) || decide ((pn : Int) ≤ at') then 2 else if off then 30 else 0) := by
    refine Lib.hid ?_
    unfold Disk.asked Disk.size
    rw [HPN.out, HOFF.out]
  clear hag hr2 hW1 HM HR1 HA1
  generalize d.may = m at *
  by_cases h0 : at' < 0 <;> by_cases h1 : (pn : Int) ≤ at' <;> cases m <;> cases off
  all_goals try (exfalso; omega)
  all_goals
    go_wp2_with fail
    go_ret
    exact ⟨by rw [HE.out]; simp [h0, h1], HA2.out⟩


/-- a row that an operation makes; it is its until operation k takes it -/
structure Ent where
  i : Nat
  k : Option Nat
  t : TypeId
  s : Nat
  n : Nat
  xs : List Value
def Ent.live (e : Ent) (L : Nat → Bool) : Prop := L e.i = true ∧ ∀ k, e.k = some k → L k = false
def rcEnts (pn cn bn : Nat) (ps cs bs : List Value) : List Ent := [⟨0, some 3, 32, 256, 0, []⟩, ⟨3, none, 32, 256, pn, ps⟩, ⟨4, some 7, 75, 257, 0, []⟩, ⟨7, none, 75, 257, cn, cs⟩, ⟨8, some 11, 3, 1, 0, []⟩, ⟨11, none, 3, 1, bn, bs⟩]
/-- what is built -/
def rcBuilt (pn cn bn : Nat) (off : Bool) (vals : Nat → Value) : Prop := ∃ a0 c0 a1 c1 a2 c2, vals 3 = .slice a0 pn c0 ∧ vals 7 = .slice a1 cn c1 ∧ vals 11 = .slice a2 bn c2 ∧ vals 14 = .agg (DV.mk a0 pn c0 a1 cn c1 a2 bn c2 off).cells
structure RcW (W0 : World) (rb pn cn bn : Nat) (off : Bool) (ps cs bs : List Value) (L : Nat → Bool) (vals : Nat → Value) (W : World) : Prop where
  ag : Agrees (fun b => b ≠ rb) W0 W
  lo : rb < W0.heap.size
  box : W.heap[rb]? = some (.cells (if L 15 = true then (vals 14).cells else DV.zero.cells) 37 (0, 0))
  own : ∀ e ∈ rcEnts pn cn bn ps cs bs, e.live L → W.ownsRow W0.heap.size e.t e.s (vals e.i) e.n e.xs
  bld : L 14 = true → rcBuilt pn cn bn off vals
theorem own_slice {W : World} {base : Nat} {e : TypeId} {size n : Nat} {v : Value} {xs : List Value} (h : W.ownsRow base e size v n xs) : ∃ a c, v = .slice a n c := by
  rcases h.2 with ⟨rfl, rfl⟩ | ⟨g, cap, cur, rfl, _⟩
  · exact ⟨_, _, rfl⟩
  · exact ⟨_, _, rfl⟩
theorem setL_at {L : Nat → Bool} {i j : Nat} (h : i ≠ j) : setL L i j = L j := by unfold setL; rw [if_neg (fun e => h e.symm)]
theorem updV_at {vals : Nat → Value} {i j : Nat} {v : Value} (h : i ≠ j) : updV vals i v j = vals j := by unfold updV; rw [if_neg (fun e => h e.symm)]
theorem updV_same {vals : Nat → Value} {i : Nat} {v : Value} : updV vals i v i = v := by unfold updV; rw [if_pos rfl]
theorem rcBuilt_upd {pn cn bn : Nat} {off : Bool} {vals : Nat → Value} {i : Nat} {v : Value} (h : rcBuilt pn cn bn off vals) (h3 : i ≠ 3) (h7 : i ≠ 7) (h11 : i ≠ 11) (h14 : i ≠ 14) : rcBuilt pn cn bn off (updV vals i v) := by
  unfold rcBuilt
  rw [updV_at h3, updV_at h7, updV_at h11, updV_at h14]; exact h
section
variable {W0 : World} {rb pn cn bn : Nat} {off : Bool} {ps cs bs : List Value} {L : Nat → Bool} {vals : Nat → Value} {W W' : World}
def rcFree (i : Nat) : Bool := i != 0 && i != 3 && i != 4 && i != 7 && i != 8 && i != 11 && i != 14 && i != 15
theorem ent_live {e : Ent} {i : Nat} (h : e.live (setL L i)) (hi : i ≠ e.i) : e.live L := ⟨by have := h.1; rwa [setL_at hi] at this, fun k hk => setL_false (h.2 k hk)⟩
theorem ent_mem {e : Ent} (h : e ∈ rcEnts pn cn bn ps cs bs) : e.i = 0 ∨ e.i = 3 ∨ e.i = 4 ∨ e.i = 7 ∨ e.i = 8 ∨ e.i = 11 := by
  simp only [rcEnts, List.mem_cons, List.not_mem_nil, or_false] at h
  rcases h with rfl | rfl | rfl | rfl | rfl | rfl <;> simp
theorem ent_uniq {e e' : Ent} (h : e ∈ rcEnts pn cn bn ps cs bs) (h' : e' ∈ rcEnts pn cn bn ps cs bs) (hi : e.i = e'.i) : e = e' := by
  simp only [rcEnts, List.mem_cons, List.not_mem_nil, or_false] at h h'
  rcases h with rfl | rfl | rfl | rfl | rfl | rfl <;> rcases h' with rfl | rfl | rfl | rfl | rfl | rfl <;> first | rfl | (simp at hi)
theorem ent_type {e e' : Ent} (h : e ∈ rcEnts pn cn bn ps cs bs) (h' : e' ∈ rcEnts pn cn bn ps cs bs) {k : Nat} (hk : e.k = some k) (h1 : e'.i ≠ e.i) (h2 : e'.i ≠ k) : e'.t ≠ e.t := by
  simp only [rcEnts, List.mem_cons, List.not_mem_nil, or_false] at h h'
  rcases h with rfl | rfl | rfl | rfl | rfl | rfl <;> rcases h' with rfl | rfl | rfl | rfl | rfl | rfl <;> simp at hk h1 h2 ⊢ <;> first | (subst hk; simp at h2) | decide
theorem RcW.other (h : RcW W0 rb pn cn bn off ps cs bs L vals W) {i : Nat} (hi : rcFree i = true) (v : Value) : RcW W0 rb pn cn bn off ps cs bs (setL L i) (updV vals i v) W := by
  simp only [rcFree, Bool.and_eq_true, bne_iff_ne, ne_eq] at hi
  obtain ⟨⟨⟨⟨⟨⟨⟨h0, h3⟩, h4⟩, h7⟩, h8⟩, h11⟩, h14⟩, h15⟩ := hi
  refine ⟨h.ag, h.lo, ?_, fun e he hl => ?_, fun hl => ?_⟩
  · rw [setL_at h15, updV_at h14]; exact h.box
  · have hne : i ≠ e.i := by
      rcases ent_mem he with e1 | e1 | e1 | e1 | e1 | e1 <;> rw [e1] <;> assumption
    rw [updV_at hne]; exact h.own e he (ent_live hl hne)
  · rw [setL_at h14] at hl
    exact rcBuilt_upd (h.bld hl) h3 h7 h11 h14
theorem RcW.made (h : RcW W0 rb pn cn bn off ps cs bs L vals W) {e : Ent} (he : e ∈ rcEnts pn cn bn ps cs bs) (hi : e.i ≠ 14 ∧ e.i ≠ 15) (hj : e.i ≠ 3 ∧ e.i ≠ 7 ∧ e.i ≠ 11) {v : Value} (g : Agrees All W W') (hown : W'.ownsRow W0.heap.size e.t e.s v e.n e.xs) :
    RcW W0 rb pn cn bn off ps cs bs (setL L e.i) (updV vals e.i v) W' := by
  refine ⟨h.ag.trans g.weak, h.lo, ?_, fun e' he' hl => ?_, fun hl => ?_⟩
  · rw [setL_at hi.2, updV_at hi.1]; exact (g.block _ (Array.getElem?_eq_some_iff.1 h.box).1 trivial).trans h.box
  · by_cases hc : e.i = e'.i
    · obtain rfl := ent_uniq he he' hc
      rw [updV_same]; exact hown
    · rw [updV_at hc]; exact ownsRow_agrees (h.own e' he' (ent_live hl hc)) g fun _ _ => trivial
  · rw [setL_at hi.1] at hl
    exact rcBuilt_upd (h.bld hl) hj.1 hj.2.1 hj.2.2 hi.1
theorem RcW.grown (h : RcW W0 rb pn cn bn off ps cs bs L vals W) {c e : Ent} (hc : c ∈ rcEnts pn cn bn ps cs bs) (he : e ∈ rcEnts pn cn bn ps cs bs) (hk : c.k = some e.i) (hi : e.i ≠ 14 ∧ e.i ≠ 15) (hce : e.i ≠ c.i) {u v : Value} (hu : vals c.i = u)
    (hown : W.ownsRow W0.heap.size c.t c.s u c.n c.xs) (hnew : W'.ownsRow W0.heap.size e.t e.s v e.n e.xs) (g : W.grownBy W' u.ownBlock) (hL14 : L 14 = false) :
    RcW W0 rb pn cn bn off ps cs bs (setL L e.i) (updV vals e.i v) W' := by
  refine ⟨h.ag.grown' g (fun b hb => .inl (hown.lt b hb).1), h.lo, ?_, fun e' he' hl => ?_, fun hl => ?_⟩
  · rw [setL_at hi.2, updV_at hi.1, g.block _ (Array.getElem?_eq_some_iff.1 h.box).1 (fun e => by have := (hown.lt _ e.symm).1; have := h.lo; omega)]; exact h.box
  · by_cases hc1 : e.i = e'.i
    · obtain rfl := ent_uniq he he' hc1
      rw [updV_same]; exact hnew
    · by_cases hc2 : e'.i = c.i
      · obtain rfl := ent_uniq he' hc hc2
        have := hl.2 _ hk
        simp [setL] at this
      · rw [updV_at hc1]
        have ho := h.own e' he' (ent_live hl hc1)
        exact ownsRow_grown ho g (own_apart ho hown (ent_type hc he' hk hc2 (fun e => hc1 e.symm)))
  · rw [setL_at hi.1, hL14] at hl; cases hl
theorem RcW.built (h : RcW W0 rb pn cn bn off ps cs bs L vals W) {v : Value} (hb : rcBuilt pn cn bn off (updV vals 14 v)) (h15 : L 15 = false) : RcW W0 rb pn cn bn off ps cs bs (setL L 14) (updV vals 14 v) W := by
  refine ⟨h.ag, h.lo, ?_, fun e he hl => ?_, fun _ => hb⟩
  · rw [setL_at (by decide), h15, if_neg Bool.false_ne_true]
    have := h.box; rwa [h15, if_neg Bool.false_ne_true] at this
  · have hne : 14 ≠ e.i := by
      rcases ent_mem he with e1 | e1 | e1 | e1 | e1 | e1 <;> rw [e1] <;> decide
    rw [updV_at hne]; exact h.own e he (ent_live hl hne)
theorem RcW.stored (h : RcW W0 rb pn cn bn off ps cs bs L vals W) {u : Array Value} (hu : vals 14 = .agg u) : RcW W0 rb pn cn bn off ps cs bs (setL L 15) (updV vals 15 undef) (W.setRow rb u) := by
  have g : Agrees (fun b => b ≠ rb) W (W.setRow rb u) := (Agrees.refl _ _).setRow (.inl fun h => h rfl) _
  have hlo := h.lo
  refine ⟨h.ag.trans g, h.lo, ?_, fun e he hl => ?_, fun hl => ?_⟩
  · rw [updV_at (by decide), hu, setRow_heap _ _ _ _ _ _ h.box]
    simp [setL, Value.cells]
  · have hne : 15 ≠ e.i := by
      rcases ent_mem he with e1 | e1 | e1 | e1 | e1 | e1 <;> rw [e1] <;> decide
    rw [updV_at hne]; exact ownsRow_agrees (h.own e he (ent_live hl hne)) g fun b hb => by omega
  · rw [setL_at (by decide)] at hl
    exact rcBuilt_upd (h.bld hl) (by decide) (by decide) (by decide) (by decide)
end
theorem ex_build_empty0 {o : Oper} {a : Act} {w : World} (ho : o.op = .buildSlice 33 0 #[]) : (execOp a.eval o).run Try.prog w = .ok (.value (.slice (some ⟨w.heap.size, 0, none⟩) 0 0)) (w.alloc (.cells #[] 32)) := by
  have h : (Instr.buildSlice 33 0 #[]).run Try.prog w = .ok (.slice (some ⟨w.heap.size, 0, none⟩) 0 0) (w.alloc (.cells #[] 32)) := by kernel_rfl
  unfold execOp
  simp only [ho, List.map_toArray, List.map_nil, Sem.run_bind, h, Result.andThen_ok]
  rfl
theorem ex_build_empty4 {o : Oper} {a : Act} {w : World} (ho : o.op = .buildSlice 34 0 #[]) : (execOp a.eval o).run Try.prog w = .ok (.value (.slice (some ⟨w.heap.size, 0, none⟩) 0 0)) (w.alloc (.cells #[] 75)) := by
  have h : (Instr.buildSlice 34 0 #[]).run Try.prog w = .ok (.slice (some ⟨w.heap.size, 0, none⟩) 0 0) (w.alloc (.cells #[] 75)) := by kernel_rfl
  unfold execOp
  simp only [ho, List.map_toArray, List.map_nil, Sem.run_bind, h, Result.andThen_ok]
  rfl
theorem ex_build_empty8 {o : Oper} {a : Act} {w : World} (ho : o.op = .buildSlice 35 0 #[]) : (execOp a.eval o).run Try.prog w = .ok (.value (.slice (some ⟨w.heap.size, 0, none⟩) 0 0)) (w.alloc (.cells #[] 3)) := by
  have h : (Instr.buildSlice 35 0 #[]).run Try.prog w = .ok (.slice (some ⟨w.heap.size, 0, none⟩) 0 0) (w.alloc (.cells #[] 3)) := by kernel_rfl
  unfold execOp
  simp only [ho, List.map_toArray, List.map_nil, Sem.run_bind, h, Result.andThen_ok]
  rfl
theorem run_build_disk (v : DV) (w : World) : (Instr.build 37 #[(0, .slice v.pa v.pn v.pc), (1, .slice v.ca v.cn v.cc), (2, .slice v.ba v.bn v.bc), (3, .bool v.off)]).run Try.prog w = .ok (.agg v.cells) w := by kernel_rfl
theorem ex_build_disk {o : Oper} {a : Act} {w : World} {x y z t : Operand} {v : DV} (ho : o.op = .build 37 #[(0, x), (1, y), (2, z), (3, t)]) (hx : a.eval x = .slice v.pa v.pn v.pc) (hy : a.eval y = .slice v.ca v.cn v.cc) (hz : a.eval z = .slice v.ba v.bn v.bc) (ht : a.eval t = .bool v.off) :
    (execOp a.eval o).run Try.prog w = .ok (.value (.agg v.cells)) w := by
  unfold execOp
  simp only [ho, List.map_toArray, List.map_cons, List.map_nil, hx, hy, hz, ht, Sem.run_bind, run_build_disk, Result.andThen_ok]
  rfl

def vRc (db pn pc cn cc bn bc : Nat) (pa ca ba : Option Addr) (off : Bool) : Nat → Value → Prop
  | 0, v => ∃ g, v = .slice (some ⟨g, 0, none⟩) 0 0
  | 1, val => val = .pointer (some ⟨db, 0, none⟩)
  | 2, val => val = .slice pa pn pc
  | 3, v => ∃ a c, v = .slice a pn c
  | 4, v => ∃ g, v = .slice (some ⟨g, 0, none⟩) 0 0
  | 5, val => val = .pointer (some ⟨db, 1, none⟩)
  | 6, val => val = .slice ca cn cc
  | 7, v => ∃ a c, v = .slice a cn c
  | 8, v => ∃ g, v = .slice (some ⟨g, 0, none⟩) 0 0
  | 9, val => val = .pointer (some ⟨db, 2, none⟩)
  | 10, val => val = .slice ba bn bc
  | 11, v => ∃ a c, v = .slice a bn c
  | 12, val => val = .pointer (some ⟨db, 3, none⟩)
  | 13, val => val = .bool off
  | 14, v => ∃ xs, v = .agg xs
  | 15, val => val = undef
  | _, _ => True

set_option maxHeartbeats 4000000 in
set_option maxRecDepth 100000 in
theorem rcopy_calls (v : DV) (d : Disk) (w : World) (hv : DiskAt All w v d) (hs : v.small) :
    Calls Try.prog 51 #[.agg v.cells] w fun e w' => ∃ v' : DV, e = .returned (.agg v'.cells) ∧ RowKit.Hid (DiskOwn w.heap.size w' v' d ∧ Agrees All w w') := by
  obtain ⟨pa, pn, pc, ca, cn, cc, ba, bn, bc, off⟩ := v
  obtain ⟨W1, hW1⟩ : ∃ W1, w.alloc (.cells (DV.mk pa pn pc ca cn cc ba bn bc off).cells 37) = W1 := ⟨_, rfl⟩
  obtain ⟨W2, hW2⟩ : ∃ W2, W1.alloc (.cells DV.zero.cells 37) = W2 := ⟨_, rfl⟩
  have hs1 : W1.heap.size = w.heap.size + 1 := by rw [← hW1]; simp
  have HA2 := Lib.hid (show Agrees All w W2 by rw [← hW2, ← hW1]; exact ((Agrees.refl _ w).alloc _).alloc _)
  have HR0 := Lib.hid (show W2.heap[w.heap.size]? = some (.cells (DV.mk pa pn pc ca cn cc ba bn bc off).cells 37 (0, 0)) by rw [← hW2, ← hW1]; exact row_old (row_new _ rfl))
  have HR1 := Lib.hid (show W2.heap[w.heap.size + 1]? = some (.cells DV.zero.cells 37 (0, 0)) by rw [← hW2]; exact row_new _ hs1)
  have HV := Lib.hid hv
  have h0 := hs.p
  have h1 := hs.c
  have h2 := hs.b
  simp only at h0 h1 h2
  clear hv hs
  go_enter Try.func51, Try.ntmps51
  go_wp2_with (refine wpList_val rfl (ex_alloc rfl (.agg DV.zero.cells) zero_disk) ?_; rw [show (Value.agg DV.zero.cells).cells = DV.zero.cells from rfl, hW2, hs1])
  obtain ⟨W0, hW0⟩ : ∃ W0, W2.drew = W0 := ⟨_, rfl⟩
  have hA0 : Agrees All w W0 := by rw [← hW0]; exact HA2.out.drew
  have hdr : W0.heap[w.heap.size]? = some (.cells (DV.mk pa pn pc ca cn cc ba bn bc off).cells 37 (0, 0)) := by rw [← hW0]; exact HR0.out
  have hrr : W0.heap[w.heap.size + 1]? = some (.cells DV.zero.cells 37 (0, 0)) := by rw [← hW0]; exact HR1.out
  have hv := (HV.out.bound.agrees hA0 fun _ _ => trivial).mono (S := fun b => b ≠ w.heap.size + 1) fun b hb => by omega
  have hok := HV.out.ok
  refine wp_region_plan (by kernel_rfl) ?hok (by kernel_rfl) (vRc w.heap.size pn pc cn cc bn bc pa ca ba off) (RcW W0 (w.heap.size + 1) pn cn bn off (d.pages.map pageL).flatten (d.cache.map wrL).flatten (d.bad.map intL).flatten) ?h0 (fun i hi => ?steps) ?hend
  case hok => kernel_rfl
  case h0 =>
    intro vals
    rw [hW0]
    exact ⟨Agrees.refl _ _, (Array.getElem?_eq_some_iff.1 hrr).1, by rw [if_neg Bool.false_ne_true]; exact hrr, fun e _ h => (by have := h.1; cases this), fun h => by cases h⟩
  case steps =>
    have hne : w.heap.size ≠ w.heap.size + 1 := by omega
    generalize w.heap.size + 1 = rb at *
    generalize w.heap.size = db at *
    have hi' : i < 16 := hi
    match i, hi' with
    | 0, _ =>
      refine steps_of rfl ?_
      intro L aq wq hL hd st wi
      exact opTo_val (v := .slice (some ⟨wq.heap.size, 0, none⟩) 0 0) rfl (ex_build_empty0 rfl) ⟨(fun h => by cases h), ⟨_, rfl⟩, wi.made (e := ⟨0, some 3, 32, 256, 0, []⟩) (by simp [rcEnts]) (by decide) (by decide) ((Agrees.refl _ _).alloc _) ⟨rfl, .inr ⟨wq.heap.size, 0, #[], rfl, Nat.le_trans wi.ag.size (Nat.le_refl _), World.alloc_heap_new _ _, Nat.le_refl _, Nat.zero_le _, rfl, rfl⟩⟩⟩
    | 1, _ =>
      refine steps_of rfl ?_
      intro L aq wq hL hd st wi
      have o1 := st.outside (t := 1) rfl (v := .pointer (some ⟨db, 0, none⟩)) rfl
      exact opTo_val (v := .pointer (some ⟨db, 0, none⟩)) rfl (by simp [go_sem, Act.eval, o1]) ⟨(fun h => by cases h), rfl, wi.other rfl _⟩
    | 2, _ =>
      refine steps_of rfl ?_
      intro L aq wq hL hd st wi
      obtain ⟨u1, e1, V1⟩ := st.val 1 _ _ rfl rfl (hd ⟨1, .data⟩ (by simp) rfl)
      obtain rfl : .pointer (some ⟨db, 0, none⟩) = u1 := V1.symm
      exact opTo_val (v := .slice pa pn pc) rfl (ex_load1 rfl onePages (eval_tmp e1) (by rw [cell_of_row _ _ _ _ _ _ ((wi.ag.block _ (Array.getElem?_eq_some_iff.1 hdr).1 hne).trans hdr)]; rfl)) ⟨(fun h => by cases h), rfl, wi.other rfl _⟩
    | 3, _ =>
      refine steps_of rfl ?_
      intro L aq wq hL hd st wi
      obtain ⟨u0, e0, V0⟩ := st.val 0 _ _ rfl rfl (hd ⟨0, .data⟩ (by simp) rfl)
      obtain ⟨u2, e2, V2⟩ := st.val 2 _ _ rfl rfl (hd ⟨2, .data⟩ (by simp) rfl)
      obtain rfl : .slice pa pn pc = u2 := V2.symm
      have hn14 : L 14 = false := by
        cases h : L 14
        · rfl
        · have := st.closed 14 _ rfl h ⟨3, .data⟩ (by simp) rfl
          rw [hL] at this; cases this
      have hown := wi.own ⟨0, some 3, 32, 256, 0, []⟩ (by simp [rcEnts]) ⟨hd ⟨0, .data⟩ (by simp) rfl, fun k hk => by cases hk; exact hL⟩
      rw [show slotV _ aq 0 = u0 from slotV_val rfl rfl e0] at hown
      obtain ⟨i0, hi0, hz0, hz1, hz2⟩ := info_parts infoPage
      obtain ⟨v', w', r1, r2, r3⟩ := run_append_from (P := Try.prog) (w := wq) W0.heap.size 33 33 32 i0 noPageV 256 256 Try.underlying33 hi0 hz0 hz1 hz2 noPageV_size (by decide) u0 0 [] hown (.slice pa pn pc) pn _ (hv.pages.agrees wi.ag (fun b hb => hb)|>.mono fun _ _ => trivial) (flat_one pageL d.pages (fun x _ => pageL_one x)) (by simp only [maxLen]; omega) (by omega) wi.ag.size
      rw [Nat.zero_add, List.nil_append] at r2
      exact opTo_val (v := v') (w' := w') rfl (by simp [execOp, resolve, invoke, builtin, eval_tmp e0, eval_tmp e2, r1]) ⟨(fun h => by cases h), own_slice r2, wi.grown (c := ⟨0, some 3, 32, 256, 0, []⟩) (e := ⟨3, none, 32, 256, pn, (d.pages.map pageL).flatten⟩) (by simp [rcEnts]) (by simp [rcEnts]) rfl (show (3 : Nat) ≠ 14 ∧ (3 : Nat) ≠ 15 by decide) (show (3 : Nat) ≠ 0 by decide) (slotV_val rfl rfl e0) hown r2 r3 hn14⟩
    | 4, _ =>
      refine steps_of rfl ?_
      intro L aq wq hL hd st wi
      exact opTo_val (v := .slice (some ⟨wq.heap.size, 0, none⟩) 0 0) rfl (ex_build_empty4 rfl) ⟨(fun h => by cases h), ⟨_, rfl⟩, wi.made (e := ⟨4, some 7, 75, 257, 0, []⟩) (by simp [rcEnts]) (by decide) (by decide) ((Agrees.refl _ _).alloc _) ⟨rfl, .inr ⟨wq.heap.size, 0, #[], rfl, Nat.le_trans wi.ag.size (Nat.le_refl _), World.alloc_heap_new _ _, Nat.le_refl _, Nat.zero_le _, rfl, rfl⟩⟩⟩
    | 5, _ =>
      refine steps_of rfl ?_
      intro L aq wq hL hd st wi
      have o1 := st.outside (t := 1) rfl (v := .pointer (some ⟨db, 0, none⟩)) rfl
      exact opTo_val (v := .pointer (some ⟨db, 1, none⟩)) rfl (by simp [go_sem, Act.eval, o1]) ⟨(fun h => by cases h), rfl, wi.other rfl _⟩
    | 6, _ =>
      refine steps_of rfl ?_
      intro L aq wq hL hd st wi
      obtain ⟨u5, e5, V5⟩ := st.val 5 _ _ rfl rfl (hd ⟨5, .data⟩ (by simp) rfl)
      obtain rfl : .pointer (some ⟨db, 1, none⟩) = u5 := V5.symm
      exact opTo_val (v := .slice ca cn cc) rfl (ex_load1 rfl oneWrites (eval_tmp e5) (by rw [cell_of_row _ _ _ _ _ _ ((wi.ag.block _ (Array.getElem?_eq_some_iff.1 hdr).1 hne).trans hdr)]; rfl)) ⟨(fun h => by cases h), rfl, wi.other rfl _⟩
    | 7, _ =>
      refine steps_of rfl ?_
      intro L aq wq hL hd st wi
      obtain ⟨u4, e4, V4⟩ := st.val 4 _ _ rfl rfl (hd ⟨4, .data⟩ (by simp) rfl)
      obtain ⟨u6, e6, V6⟩ := st.val 6 _ _ rfl rfl (hd ⟨6, .data⟩ (by simp) rfl)
      obtain rfl : .slice ca cn cc = u6 := V6.symm
      have hn14 : L 14 = false := by
        cases h : L 14
        · rfl
        · have := st.closed 14 _ rfl h ⟨7, .data⟩ (by simp) rfl
          rw [hL] at this; cases this
      have hown := wi.own ⟨4, some 7, 75, 257, 0, []⟩ (by simp [rcEnts]) ⟨hd ⟨4, .data⟩ (by simp) rfl, fun k hk => by cases hk; exact hL⟩
      rw [show slotV _ aq 4 = u4 from slotV_val rfl rfl e4] at hown
      obtain ⟨i0, hi0, hz0, hz1, hz2⟩ := info_parts infoWrite
      obtain ⟨v', w', r1, r2, r3⟩ := run_append_from (P := Try.prog) (w := wq) W0.heap.size 34 34 75 i0 noWrV 257 264 Try.underlying34 hi0 hz0 hz1 hz2 noWrV_size (by decide) u4 0 [] hown (.slice ca cn cc) cn _ (hv.cache.agrees wi.ag (fun b hb => hb)|>.mono fun _ _ => trivial) (flat_one wrL d.cache (fun x _ => wrL_one x)) (by simp only [maxLen]; omega) (by omega) wi.ag.size
      rw [Nat.zero_add, List.nil_append] at r2
      exact opTo_val (v := v') (w' := w') rfl (by simp [execOp, resolve, invoke, builtin, eval_tmp e4, eval_tmp e6, r1]) ⟨(fun h => by cases h), own_slice r2, wi.grown (c := ⟨4, some 7, 75, 257, 0, []⟩) (e := ⟨7, none, 75, 257, cn, (d.cache.map wrL).flatten⟩) (by simp [rcEnts]) (by simp [rcEnts]) rfl (show (7 : Nat) ≠ 14 ∧ (7 : Nat) ≠ 15 by decide) (show (7 : Nat) ≠ 4 by decide) (slotV_val rfl rfl e4) hown r2 r3 hn14⟩
    | 8, _ =>
      refine steps_of rfl ?_
      intro L aq wq hL hd st wi
      exact opTo_val (v := .slice (some ⟨wq.heap.size, 0, none⟩) 0 0) rfl (ex_build_empty8 rfl) ⟨(fun h => by cases h), ⟨_, rfl⟩, wi.made (e := ⟨8, some 11, 3, 1, 0, []⟩) (by simp [rcEnts]) (by decide) (by decide) ((Agrees.refl _ _).alloc _) ⟨rfl, .inr ⟨wq.heap.size, 0, #[], rfl, Nat.le_trans wi.ag.size (Nat.le_refl _), World.alloc_heap_new _ _, Nat.le_refl _, Nat.zero_le _, rfl, rfl⟩⟩⟩
    | 9, _ =>
      refine steps_of rfl ?_
      intro L aq wq hL hd st wi
      have o1 := st.outside (t := 1) rfl (v := .pointer (some ⟨db, 0, none⟩)) rfl
      exact opTo_val (v := .pointer (some ⟨db, 2, none⟩)) rfl (by simp [go_sem, Act.eval, o1]) ⟨(fun h => by cases h), rfl, wi.other rfl _⟩
    | 10, _ =>
      refine steps_of rfl ?_
      intro L aq wq hL hd st wi
      obtain ⟨u9, e9, V9⟩ := st.val 9 _ _ rfl rfl (hd ⟨9, .data⟩ (by simp) rfl)
      obtain rfl : .pointer (some ⟨db, 2, none⟩) = u9 := V9.symm
      exact opTo_val (v := .slice ba bn bc) rfl (ex_load1 rfl oneIntsL (eval_tmp e9) (by rw [cell_of_row _ _ _ _ _ _ ((wi.ag.block _ (Array.getElem?_eq_some_iff.1 hdr).1 hne).trans hdr)]; rfl)) ⟨(fun h => by cases h), rfl, wi.other rfl _⟩
    | 11, _ =>
      refine steps_of rfl ?_
      intro L aq wq hL hd st wi
      obtain ⟨u8, e8, V8⟩ := st.val 8 _ _ rfl rfl (hd ⟨8, .data⟩ (by simp) rfl)
      obtain ⟨u10, e10, V10⟩ := st.val 10 _ _ rfl rfl (hd ⟨10, .data⟩ (by simp) rfl)
      obtain rfl : .slice ba bn bc = u10 := V10.symm
      have hn14 : L 14 = false := by
        cases h : L 14
        · rfl
        · have := st.closed 14 _ rfl h ⟨11, .data⟩ (by simp) rfl
          rw [hL] at this; cases this
      have hown := wi.own ⟨8, some 11, 3, 1, 0, []⟩ (by simp [rcEnts]) ⟨hd ⟨8, .data⟩ (by simp) rfl, fun k hk => by cases hk; exact hL⟩
      rw [show slotV _ aq 8 = u8 from slotV_val rfl rfl e8] at hown
      obtain ⟨i0, hi0, hz0, hz1, hz2⟩ := info_parts infoInt1
      obtain ⟨v', w', r1, r2, r3⟩ := run_append_from (P := Try.prog) (w := wq) W0.heap.size 35 35 3 i0 (.int .i64 0) 1 8 Try.underlying35 hi0 hz0 hz1 hz2 rfl (by decide) u8 0 [] hown (.slice ba bn bc) bn _ (hv.bad.agrees wi.ag (fun b hb => hb)|>.mono fun _ _ => trivial) (flat_one intL d.bad (fun x _ => intL_one x)) (by simp only [maxLen]; omega) (by omega) wi.ag.size
      rw [Nat.zero_add, List.nil_append] at r2
      exact opTo_val (v := v') (w' := w') rfl (by simp [execOp, resolve, invoke, builtin, eval_tmp e8, eval_tmp e10, r1]) ⟨(fun h => by cases h), own_slice r2, wi.grown (c := ⟨8, some 11, 3, 1, 0, []⟩) (e := ⟨11, none, 3, 1, bn, (d.bad.map intL).flatten⟩) (by simp [rcEnts]) (by simp [rcEnts]) rfl (show (11 : Nat) ≠ 14 ∧ (11 : Nat) ≠ 15 by decide) (show (11 : Nat) ≠ 8 by decide) (slotV_val rfl rfl e8) hown r2 r3 hn14⟩
    | 12, _ =>
      refine steps_of rfl ?_
      intro L aq wq hL hd st wi
      have o1 := st.outside (t := 1) rfl (v := .pointer (some ⟨db, 0, none⟩)) rfl
      exact opTo_val (v := .pointer (some ⟨db, 3, none⟩)) rfl (by simp [go_sem, Act.eval, o1]) ⟨(fun h => by cases h), rfl, wi.other rfl _⟩
    | 13, _ =>
      refine steps_of rfl ?_
      intro L aq wq hL hd st wi
      obtain ⟨u12, e12, V12⟩ := st.val 12 _ _ rfl rfl (hd ⟨12, .data⟩ (by simp) rfl)
      obtain rfl : .pointer (some ⟨db, 3, none⟩) = u12 := V12.symm
      exact opTo_val (v := .bool off) rfl (ex_load1 rfl oneBool (eval_tmp e12) (by rw [cell_of_row _ _ _ _ _ _ ((wi.ag.block _ (Array.getElem?_eq_some_iff.1 hdr).1 hne).trans hdr)]; rfl)) ⟨(fun h => by cases h), rfl, wi.other rfl _⟩
    | 14, _ =>
      refine steps_of rfl ?_
      intro L aq wq hL hd st wi
      obtain ⟨u3, e3, V3⟩ := st.val 3 _ _ rfl rfl (hd ⟨3, .data⟩ (by simp) rfl)
      obtain ⟨u7, e7, V7⟩ := st.val 7 _ _ rfl rfl (hd ⟨7, .data⟩ (by simp) rfl)
      obtain ⟨u11, e11, V11⟩ := st.val 11 _ _ rfl rfl (hd ⟨11, .data⟩ (by simp) rfl)
      obtain ⟨u13, e13, V13⟩ := st.val 13 _ _ rfl rfl (hd ⟨13, .data⟩ (by simp) rfl)
      obtain rfl : .bool off = u13 := V13.symm
      have hn15 : L 15 = false := by
        cases h : L 15
        · rfl
        · have := st.closed 15 _ rfl h ⟨14, .data⟩ (by simp) rfl
          rw [hL] at this; cases this
      obtain ⟨a0, c0, rfl⟩ := V3
      obtain ⟨a1, c1, rfl⟩ := V7
      obtain ⟨a2, c2, rfl⟩ := V11
      refine opTo_val rfl (ex_build_disk (v := ⟨a0, pn, c0, a1, cn, c1, a2, bn, c2, off⟩) rfl (eval_tmp e3) (eval_tmp e7) (eval_tmp e11) (eval_tmp e13)) ⟨(fun h => by cases h), ⟨_, rfl⟩, wi.built ?_ hn15⟩
      exact ⟨a0, c0, a1, c1, a2, c2, (updV_at (by decide)).trans (slotV_val rfl rfl e3), (updV_at (by decide)).trans (slotV_val rfl rfl e7), (updV_at (by decide)).trans (slotV_val rfl rfl e11), updV_same⟩
    | 15, _ =>
      refine steps_of rfl ?_
      intro L aq wq hL hd st wi
      have o2 := st.outside (t := 2) rfl (v := .pointer (some ⟨rb, 0, none⟩)) rfl
      obtain ⟨u14, e14, V14⟩ := st.val 14 _ _ rfl rfl (hd ⟨14, .data⟩ (by simp) rfl)
      obtain ⟨a0, c0, a1, c1, a2, c2, k3, k7, k11, k14⟩ := wi.bld (hd ⟨14, .data⟩ (by simp) rfl)
      rw [show slotV _ aq 14 = u14 from slotV_val rfl rfl e14] at k14
      subst k14
      have hb := wi.box
      rw [hL, if_neg Bool.false_ne_true] at hb
      exact opTo_skip rfl (ex_storeAll (ty := 37) rfl isAgg_disk.2 rb (eval_tmp o2) (DV.mk a0 pn c0 a1 cn c1 a2 bn c2 off).cells DV.zero.cells (eval_tmp e14) rfl hb rfl (DV.one _)) ⟨fun _ => rfl, rfl, wi.stored (slotV_val rfl rfl e14)⟩
    | (i + 16), h => omega
  case hend =>
    intro vals w' hV hW
    obtain ⟨a0, c0, a1, c1, a2, c2, k3, k7, k11, k14⟩ := hW.bld rfl
    have hb := hW.box
    rw [if_pos (by decide), k14] at hb
    have o0 := hW.own ⟨3, none, 32, 256, pn, (d.pages.map pageL).flatten⟩ (by simp [rcEnts]) ⟨rfl, fun k hk => by cases hk⟩
    have o1 := hW.own ⟨7, none, 75, 257, cn, (d.cache.map wrL).flatten⟩ (by simp [rcEnts]) ⟨rfl, fun k hk => by cases hk⟩
    have o2 := hW.own ⟨11, none, 3, 1, bn, (d.bad.map intL).flatten⟩ (by simp [rcEnts]) ⟨rfl, fun k hk => by cases hk⟩
    simp only [k3, k7, k11] at o0 o1 o2
    have HF := Lib.hid (show DiskOwn w.heap.size w' ⟨a0, pn, c0, a1, cn, c1, a2, bn, c2, off⟩ d ∧ Agrees All w w' from
      ⟨⟨ownsRow_base o0 hA0.size, HV.out.pn, ownsRow_base o1 hA0.size, HV.out.cn, ownsRow_base o2 hA0.size, HV.out.bn, HV.out.off, hok⟩, hA0.young hW.ag fun b hb => by omega⟩)
    have HB := Lib.hid hb
    clear o0 o1 o2 k3 k7 k11 k14 hb hW hV hv hdr hrr hA0 hok
    simp only [putAll, Act.put, List.setIfInBounds_toArray, List.set_cons_succ, List.set_cons_zero]
    go_wp2_with fail
    exact bodyPost_ret (results_cell_row rfl _ _ (w.heap.size + 1) _ _ _ _ rfl HB.out Try.underlying37 rfl (by kernel_rfl)) rfl ⟨_, rfl, HF⟩
end Suture
/-
  A PAGE WRITTEN, as the document says: sutureref03.Write.
  Conditions: none beyond the disk's own reading; its lists are not longer than 9000.
-/
namespace Suture
open Go Go.RowKit Go.Proofs
attribute [local go_sem] Oper.semAt_some

theorem asked_cache {d : Disk} {a : Int} (h : d.asked a = 0) : d.cache.length ≤ 2000 := by
  unfold Disk.asked at h
  split at h
  · cases h
  · rename_i hc
    simp only [Bool.or_eq_true, Bool.not_eq_true', not_or, Bool.not_eq_false] at hc
    have hm := hc.1.1
    unfold Disk.may Disk.may0 at hm
    simp only [Bool.and_eq_true, decide_eq_true_eq] at hm
    omega

theorem ownsRow_but {W W' : World} {base B : Nat} {e : TypeId} {size n : Nat} {v : Value} {xs : List Value} (h : W.ownsRow base e size v n xs) (g : Agrees (fun b => b ≠ B) W W') (hB : v.ownBlock ≠ some B) : W'.ownsRow base e size v n xs := by
  refine ⟨h.1, ?_⟩
  rcases h.2 with hn | ⟨gb, cap, cur, rfl, hb, hg, hr⟩
  · exact .inl hn
  · exact .inr ⟨gb, cap, cur, rfl, hb, (g.block _ (Array.getElem?_eq_some_iff.1 hg).1 (fun e => hB (by simp [Value.ownBlock, e]))).trans hg, hr⟩

set_option maxHeartbeats 4000000 in
set_option maxRecDepth 100000 in
theorem rwrite_calls (v : DV) (d : Disk) (at' : Int) (p : List (BitVec 8)) (hp : p.length = 256) (ha : in64 at') (w : World) (hv : DiskAt All w v d) (hs : v.small) :
    Calls Try.prog 43 #[.agg v.cells, .int .i64 at', .agg (pageCells p)] w fun e w' => ∃ v' : DV, e = .returned (.tuple #[.agg v'.cells, .int .i64 (d.writeE at')]) ∧ RowKit.Hid (DiskOwn w.heap.size w' v' (d.write at' p) ∧ Agrees All w w') := by
  obtain ⟨W1, hW1⟩ : ∃ W1, w.alloc (.cells v.cells 37) = W1 := ⟨_, rfl⟩
  obtain ⟨W2, hW2⟩ : ∃ W2, W1.alloc (.cells (pageCells p) 32) = W2 := ⟨_, rfl⟩
  obtain ⟨W3, hW3⟩ : ∃ W3, W2.alloc (.cells DV.zero.cells 37) = W3 := ⟨_, rfl⟩
  have hs1 : W1.heap.size = w.heap.size + 1 := by rw [← hW1]; simp
  have hs2 : W2.heap.size = w.heap.size + 1 + 1 := by rw [← hW2]; simp [hs1]
  have hs3 : W3.heap.size = w.heap.size + 1 + 1 + 1 := by rw [← hW3]; simp [hs2]
  have hA3 : Agrees All w W3 := by rw [← hW3, ← hW2, ← hW1]; exact (((Agrees.refl _ w).alloc _).alloc _).alloc _
  have hr0 : W3.heap[w.heap.size]? = some (.cells v.cells 37 (0, 0)) := by rw [← hW3, ← hW2, ← hW1]; exact row_old (row_old (row_new _ rfl))
  have hr1 : W3.heap[w.heap.size + 1]? = some (.cells (pageCells p) 32 (0, 0)) := by rw [← hW3, ← hW2]; exact row_old (row_new _ hs1)
  have hr2 : W3.heap[w.heap.size + 1 + 1]? = some (.cells DV.zero.cells 37 (0, 0)) := by rw [← hW3]; exact row_new _ hs2
  have HM := Lib.hid (rat_calls v d at' W3 (hv.agrees hA3 fun _ h => h))
  have HCN := Lib.hid hv.cn
  have HVA := Lib.hid hv
  have HA3 := Lib.hid hA3
  have HR0 := Lib.hid hr0
  have HR1 := Lib.hid hr1
  have HR2 := Lib.hid hr2
  have HWE : RowKit.Hid (d.writeE at' = if d.asked at' = 0 then (if 2000 ≤ d.cache.length then 32 else 0) else d.asked at') := by exact Lib.hid rfl
  have HAC : RowKit.Hid (d.asked at' = 0 → d.cache.length ≤ 2000) := Lib.hid asked_cache
  have HPS := Lib.hid (show (pageCells p).size = 256 by rw [pageCells_size, hp])
  clear hv hA3 hr0 hr1 hr2
  go_enter Try.func43, Try.ntmps43
  go_wp2_with (first | (refine wpList_val rfl (ex_alloc rfl (.agg DV.zero.cells) zero_disk) ?_; rw [show (Value.agg DV.zero.cells).cells = DV.zero.cells from rfl, hW3, hs2]) | (refine wpList_val rfl (ex_load (ty := 37) rfl isAgg_disk w.heap.size 0 rfl v.cells rfl (v.load HR0.out)) ?_))
  refine HM.out.mono ?_
  rintro e W4 ⟨rfl, hag⟩
  have HA4 := Lib.hid (HA3.out.trans hag)
  have HQ0 := Lib.hid ((hag.block _ (Array.getElem?_eq_some_iff.1 HR0.out).1 trivial).trans HR0.out)
  have HQ1 := Lib.hid ((hag.block _ (Array.getElem?_eq_some_iff.1 HR1.out).1 trivial).trans HR1.out)
  have HQ2 := Lib.hid ((hag.block _ (Array.getElem?_eq_some_iff.1 HR2.out).1 trivial).trans HR2.out)
  have HC := Lib.hid (rcopy_calls v d W4 (HVA.out.agrees HA4.out fun _ h => h) hs)
  have hsz4 : w.heap.size + 1 + 1 + 1 ≤ W4.heap.size := by have := hag.size; omega
  obtain ⟨pa, pn, pc, ca, cn, cc, ba, bn, bc, off⟩ := v
  have hcn : d.cache.length = cn := HCN.out
  have c1 : W4.cell? ⟨w.heap.size, 1, none⟩ = some (.slice ca cn cc) := by rw [cell_of_row _ _ _ _ _ _ HQ0.out]; rfl
  rw [hcn] at HWE HAC
  have HDC := Lib.hid hcn
  have hsc : cn ≤ 9000 := hs.c
  generalize d.asked at' = ask at *
  clear hag HR0 HR1 HR2 HM HA3 hW1 hW2 hW3 hs1 hs2 hs3 HCN hcn
  have hcase : (((cn : Int) == 2000) = true ∧ RowKit.Hid (cn = 2000)) ∨ (((cn : Int) == 2000) = false ∧ RowKit.Hid (cn ≠ 2000)) := by
    by_cases h : cn = 2000
    · exact .inl ⟨by simp [h], h⟩
    · exact .inr ⟨by simp; omega, h⟩
  by_cases h0 : ask = 0 <;> rcases hcase with ⟨h1, HN⟩ | ⟨h1, HN⟩
  all_goals
    go_wp2_with (refine wpList_val rfl (ex_load (ty := 37) rfl isAgg_disk w.heap.size 0 rfl (DV.mk pa pn pc ca cn cc ba bn bc off).cells rfl (DV.load _ HQ0.out)) ?_)
  all_goals
    refine HC.out.mono ?_
    rintro e W5 ⟨v', rfl, hcopy⟩
    obtain ⟨hdk, hg5⟩ := hcopy.out
    have hlt1 := (Array.getElem?_eq_some_iff.1 HQ1.out).1
    have hlt2 := (Array.getElem?_eq_some_iff.1 HQ2.out).1
    have hsz5 : W4.heap.size ≤ W5.heap.size := hg5.size
    obtain ⟨W5a, hW5a⟩ : ∃ W5a, W5.alloc (.cells DV.zero.cells 37) = W5a := ⟨_, rfl⟩
    have HP0 := Lib.hid (show W5a.heap[W5.heap.size]? = some (.cells DV.zero.cells 37 (0, 0)) by rw [← hW5a]; exact row_new _ rfl)
    obtain ⟨W6, hW6⟩ : ∃ W6, W5a.setRow W5.heap.size v'.cells = W6 := ⟨_, rfl⟩
    have hA6 : Agrees All W5 W6 := by rw [← hW6, ← hW5a]; exact ((Agrees.refl _ _).alloc _).setRow (.inr (Nat.le_refl _)) _
    have HS0 := Lib.hid (show W6.heap[W5.heap.size]? = some (.cells v'.cells 37 (0, 0)) by rw [← hW6]; exact setRow_heap _ _ _ _ _ _ HP0.out)
    have hg46 := hg5.trans hA6
    have HS1 := Lib.hid ((hg46.block _ hlt1 trivial).trans HQ1.out)
    have HS2 := Lib.hid ((hg46.block _ hlt2 trivial).trans HQ2.out)
    have HD6 := Lib.hid (hdk.agrees hA6 (fun b hb => trivial))
    have HA6 := Lib.hid (HA4.out.trans hg46)
    have hsz6 : W5.heap.size < W6.heap.size := (Array.getElem?_eq_some_iff.1 HS0.out).1
    have HDB := Lib.hid hdk
    clear hcopy hdk hg5 hlt1 hlt2 HQ0 HQ1 HQ2 HC hA6 c1 hg46
  rotate_left 1
  · have h2k : ¬ 2000 ≤ cn := by have := HAC.out h0; have := HN.out; omega
    have HWR : RowKit.Hid (d.write at' p = d.put at' p ∧ d.writeE at' = 0) := by
      have e : d.writeE at' = 0 := by rw [HWE.out, if_pos h0, if_neg h2k]
      refine Lib.hid ⟨?_, e⟩
      unfold Disk.write
      rw [if_pos e]
    subst h0
    obtain ⟨i0, hi, hz0, hz1, hz2⟩ := info_parts infoWrite
    obtain ⟨pa', pn', pc', ca', cn', cc', ba', bn', bc', off''⟩ := v'
    have hsc' : cn' ≤ 9000 := by
      have h1 : d.cache.length = cn' := HDB.out.cn
      have h2 := HDC.out
      omega
    have c1 : W6.cell? ⟨W5.heap.size, 1, none⟩ = some (.slice ca' cn' cc') := by rw [cell_of_row _ _ _ _ _ _ HS0.out]; rfl
    obtain ⟨W7, hW7⟩ : ∃ W7, W6.alloc (.cells (wrCells (at', p)) 75) = W7 := ⟨_, rfl⟩
    have hA7 : Agrees All W6 W7 := by rw [← hW7]; exact (Agrees.refl _ _).alloc _
    have hr7 : W7.heap[W6.heap.size]? = some (.cells (wrCells (at', p)) 75 (0, 0)) := by rw [← hW7]; exact World.alloc_heap_new _ _
    have HD7 := Lib.hid (HD6.out.agrees hA7 fun _ _ => trivial)
    have HO7 := Lib.hid HD7.out.cache
    have HSRC : RowKit.Hid (CellsAt All W7 (.slice (some ⟨W6.heap.size, 0, none⟩) 1 1) 257 1 (wrL (at', p))) :=
      ⟨_, 1, rfl, by rw [wrL_length]; simp [hp], by omega, fun j u hu => ⟨W6.heap.size, 0, rfl, trivial, (Array.getElem?_eq_some_iff.1 hr7).1, by rw [Nat.zero_add, cell_of_row _ _ _ _ _ _ hr7, wrCells_get]; exact hu⟩⟩
    have HT0 := Lib.hid ((hA7.block _ (Array.getElem?_eq_some_iff.1 HS0.out).1 trivial).trans HS0.out)
    have HT2 := Lib.hid ((hA7.block _ (Array.getElem?_eq_some_iff.1 HS2.out).1 trivial).trans HS2.out)
    have HA7 := Lib.hid (HA6.out.trans hA7)
    have hsz7 : W4.heap.size ≤ W7.heap.size := by have := hA7.size; omega
    have HWS := Lib.hid (wrCells_size (at', p) hp)
    have HPC := Lib.hid (show ∀ j, j < 256 → W6.cell? ⟨w.heap.size + 1, 0 + j, none⟩ = (pageCells p)[j]? from fun j _ => by rw [Nat.zero_add]; exact cell_of_row _ _ _ _ _ _ HS1.out)
    have hne5 : (Value.slice ca' cn' cc').ownBlock ≠ some W5.heap.size := own_ne (HD6.out.cache) HS0.out (by decide)
    have HNP : RowKit.Hid ((Value.slice pa' pn' pc').ownBlock ≠ some W5.heap.size ∧ (Value.slice ba' bn' bc').ownBlock ≠ some W5.heap.size) := ⟨own_ne (HD6.out.pages) HS0.out (by decide), own_ne (HD6.out.bad) HS0.out (by decide)⟩
    have HNC := Lib.hid hne5
    clear hA7 hr7 hne5
    go_wp2_with (first | (refine wpList_val rfl (ex_alloc rfl (.agg DV.zero.cells) zero_disk) ?_; rw [show (Value.agg DV.zero.cells).cells = DV.zero.cells from rfl, hW5a]) | (refine wpList_unit rfl (ex_storeAll (ty := 37) rfl isAgg_disk.2 W5.heap.size rfl (DV.mk pa' pn' pc' ca' cn' cc' ba' bn' bc' off'').cells DV.zero.cells rfl rfl HP0.out rfl (DV.one _)) ?_; rw [hW6]) | (refine wpList_val rfl (ex_load (ty := 32) rfl isAgg_page (w.heap.size + 1) 0 rfl (pageCells p) HPS.out HPC.out) ?_) | (refine wpList_val rfl (ex_build_write rfl rfl rfl hp) ?_) | (refine wpList_val rfl (ex_buildSlice1 (T := 34) rfl rfl Try.underlying34 infoWrite (by decide) (by decide) HWS.out) ?_; rw [hW7]) |
      (at_builtin; refine wpList_append_from rfl _ _ 34 rfl W4.heap.size 75 i0 noWrV 257 264 Try.underlying34 hi hz0 hz1 hz2 noWrV_size (by decide) (.slice ca' cn' cc') cn' (d.cache.map wrL).flatten rfl HO7.out (.slice (some ⟨W6.heap.size, 0, none⟩) 1 1) 1 (wrL (at', p)) rfl HSRC.out (wrL_one _) (by simp only [maxLen]; omega) (by omega) hsz7 ?_))
    intro v8 w8 hown8 hgr8
    have hob : ∀ b, (Value.slice ca' cn' cc').ownBlock = some b → W4.heap.size ≤ b := fun b hb => (HO7.out.lt b hb).1
    have hg8 : Agrees (fun b => b < W4.heap.size ∨ b = W5.heap.size) W7 w8 := (Agrees.refl _ W7).grown' hgr8 (fun b hb => .inr (fun h => by
      rcases h with h | h
      · have := hob b hb; omega
      · exact HNC.out (h ▸ hb)))
    obtain ⟨a8, c8, rfl, _, hcl8⟩ := id (own_cells hown8)
    have HD8 := Lib.hid (HD7.out.push ha hp hown8 hgr8)
    have HU0 := Lib.hid ((hg8.block _ (Array.getElem?_eq_some_iff.1 HT0.out).1 (.inr rfl)).trans HT0.out)
    have HU2 := Lib.hid ((hg8.block _ (Array.getElem?_eq_some_iff.1 HT2.out).1 (.inl (by omega))).trans HT2.out)
    have HA8 := Lib.hid (show Agrees All w w8 from HA7.out.young hg8 fun b hb => .inl (by omega))
    have hsz8 := hg8.size
    obtain ⟨W9, hW9⟩ : ∃ W9, w8.setCell ⟨W5.heap.size, 1, none⟩ (.slice a8 (cn' + 1) c8) = W9 := ⟨_, rfl⟩
    have c8' : w8.cell? ⟨W5.heap.size, 1, none⟩ = some (.slice ca' cn' cc') := by rw [cell_of_row _ _ _ _ _ _ HU0.out]; rfl
    have f8 : w8.frozen? ⟨W5.heap.size, 1, none⟩ = false := frozen_of_row _ _ _ _ _ HU0.out
    have hA9 : Agrees (fun b => b ≠ W5.heap.size) w8 W9 := by rw [← hW9]; exact (Agrees.refl _ _).setCell (.inl (fun h => h rfl)) _
    have HX0 := Lib.hid (show W9.heap[W5.heap.size]? = some (.cells (DV.mk pa' pn' pc' a8 (cn' + 1) c8 ba' bn' bc' off'').cells 37 (0, 0)) by rw [← hW9, heap_setCell_same _ _ _ _ _ _ HU0.out]; rfl)
    have HX2 := Lib.hid ((hA9.block _ (Array.getElem?_eq_some_iff.1 HU2.out).1 (by omega)).trans HU2.out)
    have hn8 : (Value.slice a8 (cn' + 1) c8).ownBlock ≠ some W5.heap.size := own_ne HD8.out.cache HU0.out (by decide)
    have HD9 := Lib.hid (show DiskOwn W4.heap.size W9 ⟨pa', pn', pc', a8, cn' + 1, c8, ba', bn', bc', off''⟩ (d.put at' p) from
      ⟨ownsRow_but HD8.out.pages hA9 HNP.out.1, HD8.out.pn, ownsRow_but HD8.out.cache hA9 hn8, HD8.out.cn, ownsRow_but HD8.out.bad hA9 HNP.out.2, HD8.out.bn, HD8.out.off, HD8.out.ok⟩)
    have HA9 := Lib.hid (show Agrees All w W9 from HA8.out.young hA9 fun b hb => by omega)
    have hsz9 := hA9.size
    have hrow := setRow_heap W9 (w.heap.size + 1 + 1) _ (DV.mk pa' pn' pc' a8 (cn' + 1) c8 ba' bn' bc' off'').cells _ _ HX2.out
    have HROW := Lib.hid hrow
    have HAF := Lib.hid (show Agrees (fun b => b ≠ w.heap.size + 1 + 1) W9 (W9.setRow (w.heap.size + 1 + 1) (DV.mk pa' pn' pc' a8 (cn' + 1) c8 ba' bn' bc' off'').cells) from (Agrees.refl _ W9).setRow (.inl (fun h => h rfl)) _)
    clear hrow hob hg8 hcl8 hown8 hgr8 hA9 HU0 HU2 HD8 HT0 HT2 HD7 HO7 c1 hn8
    go_wp2_with (first | (refine wpList_val rfl (ex_load (ty := 37) rfl isAgg_disk W5.heap.size 0 rfl (DV.mk pa' pn' pc' a8 (cn' + 1) c8 ba' bn' bc' off'').cells rfl (DV.load _ HX0.out)) ?_) | (refine wpList_unit rfl (ex_storeAll (ty := 37) rfl isAgg_disk.2 (w.heap.size + 1 + 1) rfl (DV.mk pa' pn' pc' a8 (cn' + 1) c8 ba' bn' bc' off'').cells DV.zero.cells rfl rfl HX2.out rfl (DV.one _)) ?_))
    refine bodyPost_ret (results_a1t1 rfl _ (b := w.heap.size + 1 + 1) rfl isAgg_disk (vs := (DV.mk pa' pn' pc' a8 (cn' + 1) c8 ba' bn' bc' off'').cells) rfl (DV.load _ HROW.out)) rfl ⟨⟨pa', pn', pc', a8, cn' + 1, c8, ba', bn', bc', off''⟩, ?_, Lib.hid ⟨?_, HA9.out.setRow (.inr (by omega)) _⟩⟩
    · rw [HWR.out.2]; rfl
    · rw [HWR.out.1]
      exact (HD9.out.agrees HAF.out (fun b hb e => by omega)).base (by omega)
  all_goals
    obtain ⟨E, hE⟩ : ∃ E, E = d.writeE at' := ⟨_, rfl⟩
    have hE0 : E ≠ 0 := by
      rw [hE, HWE.out]
      first
        | (rw [if_neg h0]; exact h0)
        | (rw [if_pos h0, if_pos (by have := HN.out; omega)]; decide)
    have HWR : RowKit.Hid (d.write at' p = d) := by
      refine Lib.hid ?_
      unfold Disk.write
      rw [← hE, if_neg hE0]
    rw [HWE.out] at hE
    have hrow := setRow_heap W6 (w.heap.size + 1 + 1) _ v'.cells _ _ HS2.out
    have HROW := Lib.hid hrow
    have HAF := Lib.hid (show Agrees (fun b => b ≠ w.heap.size + 1 + 1) W6 (W6.setRow (w.heap.size + 1 + 1) v'.cells) from (Agrees.refl _ W6).setRow (.inl (fun h => h rfl)) _)
    clear hrow
    go_wp2_with (first | (refine wpList_val rfl (ex_alloc rfl (.agg DV.zero.cells) zero_disk) ?_; rw [show (Value.agg DV.zero.cells).cells = DV.zero.cells from rfl, hW5a]) | (refine wpList_unit rfl (ex_storeAll (ty := 37) rfl isAgg_disk.2 W5.heap.size rfl v'.cells DV.zero.cells rfl rfl HP0.out rfl (DV.one _)) ?_; rw [hW6]) | (refine wpList_val rfl (ex_load (ty := 37) rfl isAgg_disk W5.heap.size 0 rfl v'.cells rfl (DV.load _ HS0.out)) ?_) | (refine wpList_unit rfl (ex_storeAll (ty := 37) rfl isAgg_disk.2 (w.heap.size + 1 + 1) rfl v'.cells DV.zero.cells rfl rfl HS2.out rfl (DV.one _)) ?_))
    refine bodyPost_ret (results_a1t1 rfl _ (b := w.heap.size + 1 + 1) rfl isAgg_disk (vs := v'.cells) rfl (DV.load _ HROW.out)) rfl ⟨v', ?_, Lib.hid ⟨?_, HA6.out.setRow (.inr (by omega)) _⟩⟩
    · rw [HWE.out]
      first
        | (rw [if_neg h0]; rfl)
        | (rw [if_pos h0, if_pos (by have := HN.out; omega)]; rfl)
    · rw [HWR.out]
      exact (HD6.out.agrees HAF.out (fun b hb e => by omega)).base (by omega)
end Suture
/-
  A PAGE WRITTEN TO A PAIR, as the document says: sutureref10.Put.
  Conditions: none beyond the pair's own reading; its lists are not longer than 9000.
-/
namespace Suture
open Go Go.RowKit Go.Proofs
attribute [local go_sem] Oper.semAt_some

theorem DiskOwn.but {base B : Nat} {W W' : World} {v : DV} {d : Disk} {cs : Array Value} (h : DiskOwn base W v d) (hb : W.heap[B]? = some (.cells cs 37 (0, 0))) (g : Agrees (fun b => b ≠ B) W W') : DiskOwn base W' v d :=
  ⟨ownsRow_but h.pages g (own_ne h.pages hb (by decide)), h.pn, ownsRow_but h.cache g (own_ne h.cache hb (by decide)), h.cn, ownsRow_but h.bad g (own_ne h.bad hb (by decide)), h.bn, h.off, h.ok⟩
structure RpW (W0 : World) (er : Int) (d' : Disk) (L : Nat → Bool) (vals : Nat → Value) (W : World) : Prop where
  ag : Agrees All W0 W
  wr : L 6 = true → ∃ q : DV, vals 6 = .tuple #[.agg q.cells, .int .i64 er] ∧ DiskOwn W0.heap.size W q d'
  mv : L 7 = true → ∃ q : DV, vals 7 = .tuple #[.agg q.cells, .int .i64 er] ∧ DiskOwn W0.heap.size W q d'
  ex : L 8 = true → ∃ q : DV, vals 8 = .agg q.cells ∧ DiskOwn W0.heap.size W q d'
  bx : L 10 = true → ∃ b, vals 10 = .pointer (some ⟨b, 0, none⟩) ∧ W0.heap.size ≤ b ∧ W.heap[b]? = some (.cells (if L 11 = true then (vals 8).cells else DV.zero.cells) 37 (0, 0))
section
variable {W0 : World} {er : Int} {d' : Disk} {L : Nat → Bool} {vals : Nat → Value} {W W' : World}
def rpFree (i : Nat) : Bool := i != 6 && i != 7 && i != 8 && i != 10 && i != 11
theorem RpW.other (h : RpW W0 er d' L vals W) {i : Nat} (hi : rpFree i = true) (v : Value) : RpW W0 er d' (setL L i) (updV vals i v) W := by
  simp only [rpFree, Bool.and_eq_true, bne_iff_ne, ne_eq] at hi
  obtain ⟨⟨⟨⟨h6, h7⟩, h8⟩, h10⟩, h11⟩ := hi
  refine ⟨h.ag, ?_, ?_, ?_, ?_⟩
  · rw [setL_at h6, updV_at h6]; exact h.wr
  · rw [setL_at h7, updV_at h7]; exact h.mv
  · rw [setL_at h8, updV_at h8]; exact h.ex
  · rw [setL_at h10, updV_at h10, setL_at h11, updV_at h8]; exact h.bx
theorem RpW.agrees (h : RpW W0 er d' L vals W) (g : Agrees All W W') : RpW W0 er d' L vals W' :=
  ⟨h.ag.trans g, fun e => by obtain ⟨q, h1, h2⟩ := h.wr e; exact ⟨q, h1, h2.agrees g fun _ _ => trivial⟩, fun e => by obtain ⟨q, h1, h2⟩ := h.mv e; exact ⟨q, h1, h2.agrees g fun _ _ => trivial⟩,
    fun e => by obtain ⟨q, h1, h2⟩ := h.ex e; exact ⟨q, h1, h2.agrees g fun _ _ => trivial⟩, fun e => by obtain ⟨b, h1, h2, h3⟩ := h.bx e; exact ⟨b, h1, h2, (g.block _ (Array.getElem?_eq_some_iff.1 h3).1 trivial).trans h3⟩⟩
theorem RpW.call6 (h : RpW W0 er d' L vals W) {q : DV} (hq : DiskOwn W.heap.size W' q d') (g : Agrees All W W') : RpW W0 er d' (setL L 6) (updV vals 6 (.tuple #[.agg q.cells, .int .i64 er])) W' := by
  have h' := h.agrees g
  refine ⟨h'.ag, fun _ => ⟨q, updV_same, hq.base h.ag.size⟩, ?_, ?_, ?_⟩
  · rw [setL_at (by decide), updV_at (by decide)]; exact h'.mv
  · rw [setL_at (by decide), updV_at (by decide)]; exact h'.ex
  · rw [setL_at (by decide), updV_at (by decide), setL_at (by decide), updV_at (by decide)]; exact h'.bx
theorem RpW.mv7 (h : RpW W0 er d' L vals W) {u : Value} (hq : ∃ q : DV, u = .tuple #[.agg q.cells, .int .i64 er] ∧ DiskOwn W0.heap.size W q d') : RpW W0 er d' (setL L 7) (updV vals 7 u) W := by
  refine ⟨h.ag, ?_, fun _ => by rw [updV_same]; exact hq, ?_, ?_⟩
  · rw [setL_at (by decide), updV_at (by decide)]; exact h.wr
  · rw [setL_at (by decide), updV_at (by decide)]; exact h.ex
  · rw [setL_at (by decide), updV_at (by decide), setL_at (by decide), updV_at (by decide)]; exact h.bx
theorem RpW.ex8 (h : RpW W0 er d' L vals W) {q : DV} (hq : DiskOwn W0.heap.size W q d') (h11 : L 11 = false) : RpW W0 er d' (setL L 8) (updV vals 8 (.agg q.cells)) W := by
  refine ⟨h.ag, ?_, ?_, fun _ => ⟨q, updV_same, hq⟩, ?_⟩
  · rw [setL_at (by decide), updV_at (by decide)]; exact h.wr
  · rw [setL_at (by decide), updV_at (by decide)]; exact h.mv
  · rw [setL_at (by decide), updV_at (by decide), setL_at (by decide), h11]
    intro e
    have := h.bx e
    rwa [h11] at this
theorem RpW.al10 (h : RpW W0 er d' L vals W) (h11 : L 11 = false) : RpW W0 er d' (setL L 10) (updV vals 10 (.pointer (some ⟨W.heap.size, 0, none⟩))) (W.alloc (.cells DV.zero.cells 37)) := by
  have h' := h.agrees ((Agrees.refl All W).alloc (.cells DV.zero.cells 37))
  refine ⟨h'.ag, ?_, ?_, ?_, fun _ => ⟨W.heap.size, updV_same, h.ag.size, ?_⟩⟩
  · rw [setL_at (by decide), updV_at (by decide)]; exact h'.wr
  · rw [setL_at (by decide), updV_at (by decide)]; exact h'.mv
  · rw [setL_at (by decide), updV_at (by decide)]; exact h'.ex
  · rw [setL_at (by decide), h11, if_neg Bool.false_ne_true]; exact World.alloc_heap_new _ _
theorem RpW.st11 (h : RpW W0 er d' L vals W) (_ : L 10 = true) {b : Nat} {q : DV} (hb : vals 10 = .pointer (some ⟨b, 0, none⟩)) (hr : W.heap[b]? = some (.cells DV.zero.cells 37 (0, 0))) (hq : vals 8 = .agg q.cells) :
    RpW W0 er d' (setL L 11) (updV vals 11 undef) (W.setRow b q.cells) := by
  have g : Agrees (fun k => k ≠ b) W (W.setRow b q.cells) := (Agrees.refl _ _).setRow (.inl fun h => h rfl) _
  have hlo : L 10 = true → W0.heap.size ≤ b := fun e => by
    obtain ⟨b', h1, h2, _⟩ := h.bx e
    rw [hb] at h1; simp at h1; omega
  refine ⟨h.ag.setRow (.inr (hlo ‹_›)) _, ?_, ?_, ?_, ?_⟩
  · rw [setL_at (by decide), updV_at (by decide)]
    intro e; obtain ⟨q, h1, h2⟩ := h.wr e; exact ⟨q, h1, h2.but hr g⟩
  · rw [setL_at (by decide), updV_at (by decide)]
    intro e; obtain ⟨q, h1, h2⟩ := h.mv e; exact ⟨q, h1, h2.but hr g⟩
  · rw [setL_at (by decide), updV_at (by decide)]
    intro e; obtain ⟨q, h1, h2⟩ := h.ex e; exact ⟨q, h1, h2.but hr g⟩
  · rw [setL_at (by decide), updV_at (by decide), updV_at (by decide)]
    intro e
    refine ⟨b, hb, hlo e, ?_⟩
    rw [setRow_heap _ _ _ _ _ _ hr, hq]
    simp [setL, Value.cells]
end
theorem setDisk_cells (v : PV) (d : Nat) (hd : d < 2) (dv : DV) : (v.cells.toList.take (d * 4) ++ dv.cells.toList ++ v.cells.toList.drop (d * 4 + 4)).toArray = (v.set d dv).cells := by
  have : d = 0 ∨ d = 1 := by omega
  rcases this with rfl | rfl <;> rfl
theorem burn_disk (v : PV) (d : Nat) : v.burn.disk d = v.disk d := by unfold PV.disk; split <;> rfl
theorem Pair.burn_disk (P : Pair) (d : Nat) : P.burn.disk d = P.disk d := by unfold Pair.disk; split <;> rfl

def vRp (pb d : Nat) (v : PV) (at' : Int) (p : List (BitVec 8)) (er : Int) : Nat → Value → Prop
  | 0, val => val = .int .i64 (d : Int)
  | 1, val => val = .pointer (some ⟨pb, 0, none⟩)
  | 2, val => val = .pointer (some ⟨pb, d * 4, none⟩)
  | 3, val => val = .agg (v.disk d).cells
  | 4, val => val = .int .i64 at'
  | 5, val => val = .agg (pageCells p)
  | 6, val => ∃ q : DV, val = .tuple #[.agg q.cells, .int .i64 er]
  | 7, val => ∃ q : DV, val = .tuple #[.agg q.cells, .int .i64 er]
  | 8, val => ∃ q : DV, val = .agg q.cells
  | 9, val => val = .int .i64 er
  | 10, val => ∃ b, val = .pointer (some ⟨b, 0, none⟩)
  | 11, val => val = undef
  | 12, val => val = .int .i64 er
  | _, _ => True

set_option maxHeartbeats 4000000 in
set_option maxRecDepth 100000 in
theorem rput_calls (R0 : Nat → Prop) (v : PV) (P : Pair) (d : Nat) (hd2 : d < 2) (at' : Int) (p : List (BitVec 8)) (hp : p.length = 256) (ha : in64 at') (w : World) (hv : PairAt R0 w v P) (hs : v.small) :
    Calls Try.prog 21 #[.agg v.cells, .int .i64 d, .int .i64 at', .agg (pageCells p)] w fun e w' => ∃ v' : PV, e = .returned (.tuple #[.agg v'.cells, .int .i64 (P.putE d at')]) ∧ RowKit.Hid (PairAt (fun b => R0 b ∨ w.heap.size ≤ b) w' v' (P.put d at' p) ∧ Agrees All w w') := by
  obtain ⟨W1, hW1⟩ : ∃ W1, w.alloc (.cells v.cells 40) = W1 := ⟨_, rfl⟩
  obtain ⟨W2, hW2⟩ : ∃ W2, W1.alloc (.cells (pageCells p) 32) = W2 := ⟨_, rfl⟩
  obtain ⟨W3, hW3⟩ : ∃ W3, W2.alloc (.cells PV.zero.cells 40) = W3 := ⟨_, rfl⟩
  have hs1 : W1.heap.size = w.heap.size + 1 := by rw [← hW1]; simp
  have hs2 : W2.heap.size = w.heap.size + 1 + 1 := by rw [← hW2]; simp [hs1]
  have hs3 : W3.heap.size = w.heap.size + 1 + 1 + 1 := by rw [← hW3]; simp [hs2]
  have hA3 : Agrees All w W3 := by rw [← hW3, ← hW2, ← hW1]; exact (((Agrees.refl _ w).alloc _).alloc _).alloc _
  have HR0 := Lib.hid (show W3.heap[w.heap.size]? = some (.cells v.cells 40 (0, 0)) by rw [← hW3, ← hW2, ← hW1]; exact row_old (row_old (row_new _ rfl)))
  have HR1 := Lib.hid (show W3.heap[w.heap.size + 1]? = some (.cells (pageCells p) 32 (0, 0)) by rw [← hW3, ← hW2]; exact row_old (row_new _ hs1))
  have HR2 := Lib.hid (show W3.heap[w.heap.size + 1 + 1]? = some (.cells PV.zero.cells 40 (0, 0)) by rw [← hW3]; exact row_new _ hs2)
  have HB := Lib.hid (rburn_calls v hv.in64 W3)
  have HA3 := Lib.hid hA3
  have HV := Lib.hid hv.both
  have HSM := Lib.hid hs
  have hn0 : ¬ ((d : Int) < 0) := by omega
  have hn1 : ¬ ((1 : Int) < (d : Int)) := by omega
  clear hA3 hv hs
  go_enter Try.func21, Try.ntmps21
  go_wp2_with (first | (refine wpList_val rfl (ex_alloc rfl (.agg PV.zero.cells) zero_pair) ?_; rw [show (Value.agg PV.zero.cells).cells = PV.zero.cells from rfl, hW3, hs2]) | (refine wpList_val rfl (ex_load (ty := 40) rfl isAgg_pair w.heap.size 0 rfl v.cells rfl (v.load HR0.out)) ?_))
  refine HB.out.mono ?_
  rintro e W4 ⟨rfl, hag⟩
  have hq0 := (hag.block _ (Array.getElem?_eq_some_iff.1 HR0.out).1 trivial).trans HR0.out
  have hq1 := (hag.block _ (Array.getElem?_eq_some_iff.1 HR1.out).1 trivial).trans HR1.out
  have hq2 := (hag.block _ (Array.getElem?_eq_some_iff.1 HR2.out).1 trivial).trans HR2.out
  obtain ⟨W5, hW5⟩ : ∃ W5, W4.setRow w.heap.size v.burn.cells = W5 := ⟨_, rfl⟩
  have hA5 : Agrees (fun b => b ≠ w.heap.size) W4 W5 := by rw [← hW5]; exact (Agrees.refl _ _).setRow (.inl (fun h => h rfl)) _
  have HS0 := Lib.hid (show W5.heap[w.heap.size]? = some (.cells v.burn.cells 40 (0, 0)) by rw [← hW5]; exact setRow_heap _ _ _ _ _ _ hq0)
  have HS1 := Lib.hid ((hA5.block _ (Array.getElem?_eq_some_iff.1 hq1).1 (by omega)).trans hq1)
  have HS2 := Lib.hid ((hA5.block _ (Array.getElem?_eq_some_iff.1 hq2).1 (by omega)).trans hq2)
  have HQ0 := Lib.hid hq0
  have HA5 := Lib.hid (show Agrees All w W5 by rw [← hW5]; exact (HA3.out.trans hag).setRow (.inr (Nat.le_refl _)) _)
  have hsz5 : w.heap.size + 1 + 1 + 1 ≤ W5.heap.size := by have := hag.size; have := hA5.size; omega
  have HBP : RowKit.Hid ((burnF v.fuse v.down).2.2 = P.burns) := by
    refine Lib.hid ?_
    unfold Pair.burns; rw [HV.out.fuse, HV.out.down]
  have HVB := Lib.hid ((HV.out.agrees HA5.out fun _ _ => trivial).burn)
  clear hag hq0 hq1 hq2 hA5 HB HR0 HR1 HR2 HA3
  generalize (burnF v.fuse v.down).2.2 = ok at *
  cases ok
  · have HPE : RowKit.Hid (P.putE d at' = 100 ∧ P.put d at' p = P.burn) := by
      have e : P.putE d at' = 100 := by unfold Pair.putE; rw [← HBP.out]; rfl
      exact Lib.hid ⟨e, by unfold Pair.put; rw [e]; rfl⟩
    have HROW := Lib.hid (setRow_heap _ _ _ v.burn.cells _ _ HS2.out)
    have HAF := Lib.hid (HA5.out.setRow (p := w.heap.size + 1 + 1) (.inr (by omega)) v.burn.cells)
    have HGF := Lib.hid ((Agrees.refl (fun b => b ≠ w.heap.size + 1 + 1) W5).setRow (.inl (fun h => h rfl)) v.burn.cells)
    go_wp2_with (first | (refine wpList_unit rfl (ex_storeAll (ty := 40) rfl isAgg_pair.2 w.heap.size rfl v.burn.cells v.cells rfl rfl HQ0.out rfl (PV.one _)) ?_; rw [hW5]) | (refine wpList_val rfl (ex_load (ty := 40) rfl isAgg_pair w.heap.size 0 rfl v.burn.cells rfl (PV.load _ HS0.out)) ?_) | (refine wpList_unit rfl (ex_storeAll (ty := 40) rfl isAgg_pair.2 (w.heap.size + 1 + 1) rfl v.burn.cells PV.zero.cells rfl rfl HS2.out rfl (PV.one _)) ?_))
    refine bodyPost_ret (results_a1t1' rfl _ (b := w.heap.size + 1 + 1) rfl isAgg_pair (vs := v.burn.cells) rfl (PV.load _ HROW.out) rfl) rfl ⟨v.burn, by rw [HPE.out.1]; rfl, Lib.hid ⟨?_, HAF.out⟩⟩
    rw [HPE.out.2]
    exact (HVB.out.agrees HGF.out fun b hb => by omega).mono fun b hb => .inl hb.1
  · have HWE : RowKit.Hid (P.putE d at' = (P.disk d).writeE at') := by
      refine Lib.hid ?_
      unfold Pair.putE; rw [← HBP.out]; rfl
    obtain ⟨W0, hW0⟩ : ∃ W0, W5.drew = W0 := ⟨_, rfl⟩
    have hA0 : Agrees All W5 W0 := by rw [← hW0]; exact (Agrees.refl _ _).drew
    have HWR : RowKit.Hid (∀ W', Agrees All W0 W' → Calls Try.prog 43 #[.agg (v.disk d).cells, .int .i64 at', .agg (pageCells p)] W' fun e w' => ∃ q : DV, e = .returned (.tuple #[.agg q.cells, .int .i64 ((P.disk d).writeE at')]) ∧ RowKit.Hid (DiskOwn W'.heap.size w' q ((P.disk d).write at' p) ∧ Agrees All W' w')) := by
      refine Lib.hid (fun W' g => ?_)
      have := HVB.out.disk d
      rw [burn_disk, Pair.burn_disk] at this
      exact rwrite_calls (v.disk d) (P.disk d) at' p hp ha W' ((this.agrees (hA0.trans g) fun _ _ => trivial).mono fun _ _ => trivial) (HSM.out.disk d)
    have hdl : ∀ W : World, W.heap[w.heap.size]? = some (.cells v.burn.cells 40 (0, 0)) → ∀ j, j < 4 → W.cell? ⟨w.heap.size, d * 4 + j, none⟩ = (v.disk d).cells[j]? := fun W h j hj => by
      rw [← burn_disk]; exact v.burn.loadDisk h d hd2 j hj
    have HDL := Lib.hid hdl
    have HP0 := Lib.hid ((hA0.block _ (Array.getElem?_eq_some_iff.1 HS0.out).1 trivial).trans HS0.out)
    have HP1 := Lib.hid ((hA0.block _ (Array.getElem?_eq_some_iff.1 HS1.out).1 trivial).trans HS1.out)
    have HP2 := Lib.hid ((hA0.block _ (Array.getElem?_eq_some_iff.1 HS2.out).1 trivial).trans HS2.out)
    have HVB0 := Lib.hid (HVB.out.agrees hA0 fun _ _ => trivial)
    have hsz0 : w.heap.size + 1 + 1 + 1 ≤ W0.heap.size := by have := hA0.size; omega
    have HAW0 := Lib.hid (HA5.out.trans hA0)
    clear hdl hA0
    go_wp2_with (first | (refine wpList_unit rfl (ex_storeAll (ty := 40) rfl isAgg_pair.2 w.heap.size rfl v.burn.cells v.cells rfl rfl HQ0.out rfl (PV.one _)) ?_; rw [hW5]))
    generalize her : (P.disk d).writeE at' = er at *
    have hpr := HP0.out
    have hgr := HP1.out
    have hdl := HDL.out
    refine wp_region_plan (by kernel_rfl) ?hok (by kernel_rfl) (vRp w.heap.size d v at' p er) (RpW W0 er ((P.disk d).write at' p)) ?h0 (fun i hi => ?steps) ?hend
    case hok => kernel_rfl
    case h0 =>
      intro vals
      rw [hW0]
      exact ⟨Agrees.refl _ _, (fun h => by cases h), (fun h => by cases h), (fun h => by cases h), (fun h => by cases h)⟩
    case steps =>
      generalize w.heap.size + 1 = gb at *
      generalize w.heap.size = pb at *
      have hi' : i < 13 := hi
      match i, hi' with
      | 0, _ =>
        refine steps_of rfl ?_
        intro L aq wq hL hd st wi
        have o1 := st.outside (t := 1) rfl (v := .int .i64 (d : Int)) rfl
        exact opTo_val (v := .int .i64 (d : Int)) rfl (ex_move (.inl rfl) (eval_tmp o1)) ⟨(fun h => by cases h), rfl, wi.other rfl _⟩
      | 1, _ =>
        refine steps_of rfl ?_
        intro L aq wq hL hd st wi
        have o4 := st.outside (t := 4) rfl (v := .pointer (some ⟨pb, 0, none⟩)) rfl
        exact opTo_val (v := .pointer (some ⟨pb, 0, none⟩)) rfl (by simp [go_sem, Act.eval, o4]) ⟨(fun h => by cases h), rfl, wi.other rfl _⟩
      | 2, _ =>
        refine steps_of rfl ?_
        intro L aq wq hL hd st wi
        obtain ⟨u1, e1, V1⟩ := st.val 1 _ _ rfl rfl (hd ⟨1, .data⟩ (by simp) rfl)
        obtain rfl : .pointer (some ⟨pb, 0, none⟩) = u1 := V1.symm
        obtain ⟨u0, e0, V0⟩ := st.val 0 _ _ rfl rfl (hd ⟨0, .data⟩ (by simp) rfl)
        obtain rfl : .int .i64 (d : Int) = u0 := V0.symm
        exact opTo_val (v := .pointer (some ⟨pb, d * 4, none⟩)) rfl (by have := hd2; simp [go_sem, Act.eval, e0, e1]; omega) ⟨(fun h => by cases h), rfl, wi.other rfl _⟩
      | 3, _ =>
        refine steps_of rfl ?_
        intro L aq wq hL hd st wi
        obtain ⟨u2, e2, V2⟩ := st.val 2 _ _ rfl rfl (hd ⟨2, .data⟩ (by simp) rfl)
        obtain rfl : .pointer (some ⟨pb, d * 4, none⟩) = u2 := V2.symm
        exact opTo_val (v := .agg (v.disk d).cells) rfl (ex_load rfl isAgg_disk pb (d * 4) (eval_tmp e2) (v.disk d).cells rfl (hdl _ ((wi.ag.block _ (Array.getElem?_eq_some_iff.1 hpr).1 trivial).trans hpr))) ⟨(fun h => by cases h), rfl, wi.other rfl _⟩
      | 4, _ =>
        refine steps_of rfl ?_
        intro L aq wq hL hd st wi
        have o2 := st.outside (t := 2) rfl (v := .int .i64 at') rfl
        exact opTo_val (v := .int .i64 at') rfl (ex_move (.inl rfl) (eval_tmp o2)) ⟨(fun h => by cases h), rfl, wi.other rfl _⟩
      | 5, _ =>
        refine steps_of rfl ?_
        intro L aq wq hL hd st wi
        have o7 := st.outside (t := 7) rfl (v := .pointer (some ⟨gb, 0, none⟩)) rfl
        exact opTo_val (v := .agg (pageCells p)) rfl (ex_load rfl isAgg_page gb 0 (eval_tmp o7) (pageCells p) (by rw [pageCells_size]; exact hp) (fun j _ => by rw [Nat.zero_add]; exact cell_of_row _ _ _ _ _ _ ((wi.ag.block _ (Array.getElem?_eq_some_iff.1 hgr).1 trivial).trans hgr))) ⟨(fun h => by cases h), rfl, wi.other rfl _⟩
      | 6, _ =>
        refine steps_of rfl ?_
        intro L aq wq hL hd st wi
        obtain ⟨u3, e3, V3⟩ := st.val 3 _ _ rfl rfl (hd ⟨3, .data⟩ (by simp) rfl)
        obtain rfl : .agg (v.disk d).cells = u3 := V3.symm
        obtain ⟨u4, e4, V4⟩ := st.val 4 _ _ rfl rfl (hd ⟨4, .data⟩ (by simp) rfl)
        obtain rfl : .int .i64 at' = u4 := V4.symm
        obtain ⟨u5, e5, V5⟩ := st.val 5 _ _ rfl rfl (hd ⟨5, .data⟩ (by simp) rfl)
        obtain rfl : .agg (pageCells p) = u5 := V5.symm
        refine opTo_call (w' := wq) (f := 43) (args := #[.agg (v.disk d).cells, .int .i64 at', .agg (pageCells p)]) rfl (by simp [go_sem, Act.eval, e3, e4, e5]) ((HWR.out wq wi.ag).mono ?_)
        rintro e w' ⟨q, rfl, hh⟩
        exact ⟨_, rfl, (fun h => by cases h), ⟨q, rfl⟩, wi.call6 hh.out.1 hh.out.2⟩
      | 7, _ =>
        refine steps_of rfl ?_
        intro L aq wq hL hd st wi
        obtain ⟨u6, e6, V6⟩ := st.val 6 _ _ rfl rfl (hd ⟨6, .data⟩ (by simp) rfl)
        have hk := wi.wr (hd ⟨6, .data⟩ (by simp) rfl)
        rw [show slotV _ aq 6 = u6 from slotV_val rfl rfl e6] at hk
        exact opTo_val (v := u6) rfl (ex_move (.inl rfl) (eval_tmp e6)) ⟨(fun h => by cases h), V6, wi.mv7 hk⟩
      | 8, _ =>
        refine steps_of rfl ?_
        intro L aq wq hL hd st wi
        obtain ⟨u7, e7, V7⟩ := st.val 7 _ _ rfl rfl (hd ⟨7, .data⟩ (by simp) rfl)
        have hn11 : L 11 = false := by
          cases h : L 11
          · rfl
          · have := st.closed 11 _ rfl h ⟨8, .data⟩ (by simp) rfl
            rw [hL] at this; cases this
        have hk := wi.mv (hd ⟨7, .data⟩ (by simp) rfl)
        rw [show slotV _ aq 7 = u7 from slotV_val rfl rfl e7] at hk
        obtain ⟨q, rfl, hq⟩ := hk
        exact opTo_val (v := .agg q.cells) rfl (by simp [go_sem, Act.eval, e7]) ⟨(fun h => by cases h), ⟨q, rfl⟩, wi.ex8 hq hn11⟩
      | 9, _ =>
        refine steps_of rfl ?_
        intro L aq wq hL hd st wi
        obtain ⟨u7, e7, V7⟩ := st.val 7 _ _ rfl rfl (hd ⟨7, .data⟩ (by simp) rfl)
        obtain ⟨q, rfl⟩ := V7
        exact opTo_val (v := .int .i64 er) rfl (by simp [go_sem, Act.eval, e7]) ⟨(fun h => by cases h), rfl, wi.other rfl _⟩
      | 10, _ =>
        refine steps_of rfl ?_
        intro L aq wq hL hd st wi
        have hn11 : L 11 = false := by
          cases h : L 11
          · rfl
          · have := st.closed 11 _ rfl h ⟨10, .data⟩ (by simp) rfl
            rw [hL] at this; cases this
        exact opTo_val (v := .pointer (some ⟨wq.heap.size, 0, none⟩)) rfl (ex_alloc rfl (.agg DV.zero.cells) zero_disk) ⟨(fun h => by cases h), ⟨_, rfl⟩, wi.al10 hn11⟩
      | 11, _ =>
        refine steps_of rfl ?_
        intro L aq wq hL hd st wi
        obtain ⟨u10, e10, V10⟩ := st.val 10 _ _ rfl rfl (hd ⟨10, .data⟩ (by simp) rfl)
        obtain ⟨u8, e8, V8⟩ := st.val 8 _ _ rfl rfl (hd ⟨8, .data⟩ (by simp) rfl)
        obtain ⟨b, hb1, hb2, hb3⟩ := wi.bx (hd ⟨10, .data⟩ (by simp) rfl)
        rw [show slotV _ aq 10 = u10 from slotV_val rfl rfl e10] at hb1
        rw [hL, if_neg Bool.false_ne_true] at hb3
        subst hb1
        obtain ⟨q, hq1, hq2⟩ := wi.ex (hd ⟨8, .data⟩ (by simp) rfl)
        have hq1' := hq1
        rw [show slotV _ aq 8 = u8 from slotV_val rfl rfl e8] at hq1
        subst hq1
        exact opTo_skip rfl (ex_storeAll rfl isAgg_disk.2 b (eval_tmp e10) q.cells DV.zero.cells (eval_tmp e8) rfl hb3 rfl (DV.one _)) ⟨fun _ => rfl, rfl, wi.st11 (hd ⟨10, .data⟩ (by simp) rfl) (slotV_val rfl rfl e10) hb3 hq1'⟩
      | 12, _ =>
        refine steps_of rfl ?_
        intro L aq wq hL hd st wi
        obtain ⟨u9, e9, V9⟩ := st.val 9 _ _ rfl rfl (hd ⟨9, .data⟩ (by simp) rfl)
        obtain rfl : .int .i64 er = u9 := V9.symm
        exact opTo_val (v := .int .i64 er) rfl (ex_move (.inr rfl) (eval_tmp e9)) ⟨(fun h => by cases h), rfl, wi.other rfl _⟩
      | (i + 13), h => omega
    case hend =>
      intro vals W6 hV hW
      have x12 : vals 12 = .int .i64 er := hV 12 _ _ rfl rfl
      obtain ⟨q, hq1, hq2⟩ := hW.ex rfl
      obtain ⟨nb, hb1, hb2, hb3⟩ := hW.bx rfl
      rw [if_pos (by decide), hq1] at hb3
      simp only [putAll, Act.put, List.setIfInBounds_toArray, List.set_cons_succ, List.set_cons_zero, x12, hb1]
      have hag := hW.ag
      have HD6 := Lib.hid hq2
      have HN6 := Lib.hid (show W6.heap[nb]? = some (.cells q.cells 37 (0, 0)) from hb3)
      have HU0 := Lib.hid ((hag.block _ (Array.getElem?_eq_some_iff.1 HP0.out).1 trivial).trans HP0.out)
      have HU2 := Lib.hid ((hag.block _ (Array.getElem?_eq_some_iff.1 HP2.out).1 trivial).trans HP2.out)
      have HV6 := Lib.hid (HVB0.out.agrees hag fun _ _ => trivial)
      have HA6 := Lib.hid (HAW0.out.trans hag)
      have hszb : w.heap.size + 1 + 1 + 1 ≤ W6.heap.size := by have := hag.size; omega
      clear hag hW hV hb3 hq1 hq2 hb1 x12 hpr hgr hdl HDL HWR HVB HVB0 HP0 HP1 HP2 HS0 HS1 HS2
      by_cases hE : er = 0
      · subst hE
        obtain ⟨W7, hW7⟩ : ∃ W7, W6.setRow w.heap.size (v.burn.set d q).cells = W7 := ⟨_, rfl⟩
        have hA7 : Agrees (fun b => b ≠ w.heap.size) W6 W7 := by rw [← hW7]; exact (Agrees.refl _ _).setRow (.inl (fun h => h rfl)) _
        have HX0 := Lib.hid (show W7.heap[w.heap.size]? = some (.cells (v.burn.set d q).cells 40 (0, 0)) by rw [← hW7]; exact setRow_heap _ _ _ _ _ _ HU0.out)
        have HX2 := Lib.hid ((hA7.block _ (Array.getElem?_eq_some_iff.1 HU2.out).1 (by omega)).trans HU2.out)
        have HD7 := Lib.hid (HD6.out.agrees hA7 (fun b hb e => by omega))
        have HV7 := Lib.hid (HV6.out.agrees hA7 (fun b hb e => by omega))
        have HA7 := Lib.hid (show Agrees All w W7 by rw [← hW7]; exact HA6.out.setRow (.inr (Nat.le_refl _)) _)
        have HROW := Lib.hid (setRow_heap _ _ _ (v.burn.set d q).cells _ _ HX2.out)
        have HAF := Lib.hid (HA7.out.setRow (p := w.heap.size + 1 + 1) (.inr (by omega)) (v.burn.set d q).cells)
        have HGF := Lib.hid ((Agrees.refl (fun b => b ≠ w.heap.size + 1 + 1) W7).setRow (.inl (fun h => h rfl)) (v.burn.set d q).cells)
        have HPT : RowKit.Hid (P.put d at' p = P.burn.set d ((P.disk d).write at' p)) := by
          refine Lib.hid ?_
          unfold Pair.put Disk.write
          rw [HWE.out, her, if_pos rfl, if_pos rfl]
        have HCELL : RowKit.Hid ((v.burn.cells.toList.take (d * 4) ++ q.cells.toList ++ v.burn.cells.toList.drop (d * 4 + 4)).toArray = (v.burn.set d q).cells) := Lib.hid (setDisk_cells v.burn d hd2 q)
        clear hA7 her
        go_wp2_with (first | (refine wpList_val rfl (ex_load (ty := 37) rfl isAgg_disk nb 0 rfl q.cells rfl (DV.load _ HN6.out)) ?_) |
          (refine wpList_unit rfl (ex_store (ty := 37) rfl isAgg_disk.2 w.heap.size (d * 4) rfl q.cells v.burn.cells rfl rfl HU0.out (show d * 4 + 4 ≤ 10 by omega) (DV.one _)) ?_; rw [HCELL.out, hW7]) | (refine wpList_val rfl (ex_load (ty := 40) rfl isAgg_pair w.heap.size 0 rfl (v.burn.set d q).cells rfl (PV.load _ HX0.out)) ?_) | (refine wpList_unit rfl (ex_storeAll (ty := 40) rfl isAgg_pair.2 (w.heap.size + 1 + 1) rfl (v.burn.set d q).cells PV.zero.cells rfl rfl HX2.out rfl (PV.one _)) ?_))
        refine bodyPost_ret (results_a1t1' rfl _ (b := w.heap.size + 1 + 1) rfl isAgg_pair (vs := (v.burn.set d q).cells) rfl (PV.load _ HROW.out) rfl) rfl ⟨v.burn.set d q, by rw [HWE.out]; rfl, Lib.hid ⟨?_, HAF.out⟩⟩
        rw [HPT.out]
        exact PairAt.set ((HV7.out.agrees HGF.out fun b hb => by omega).mono fun b hb => .inl hb.1) d ((HD7.out.agrees HGF.out (fun b hb e => by omega)).at.mono fun b hb => .inr (by omega))
      · have HROW := Lib.hid (setRow_heap _ _ _ v.burn.cells _ _ HU2.out)
        have HAF := Lib.hid (HA6.out.setRow (p := w.heap.size + 1 + 1) (.inr (by omega)) v.burn.cells)
        have HGF := Lib.hid ((Agrees.refl (fun b => b ≠ w.heap.size + 1 + 1) W6).setRow (.inl (fun h => h rfl)) v.burn.cells)
        have HPT : RowKit.Hid (P.put d at' p = P.burn) := by
          refine Lib.hid ?_
          unfold Pair.put
          rw [HWE.out, if_neg hE]
        go_wp2_with (first | (refine wpList_val rfl (ex_load (ty := 40) rfl isAgg_pair w.heap.size 0 rfl v.burn.cells rfl (PV.load _ HU0.out)) ?_) | (refine wpList_unit rfl (ex_storeAll (ty := 40) rfl isAgg_pair.2 (w.heap.size + 1 + 1) rfl v.burn.cells PV.zero.cells rfl rfl HU2.out rfl (PV.one _)) ?_))
        refine bodyPost_ret (results_a1t1' rfl _ (b := w.heap.size + 1 + 1) rfl isAgg_pair (vs := v.burn.cells) rfl (PV.load _ HROW.out) rfl) rfl ⟨v.burn, by rw [HWE.out]; rfl, Lib.hid ⟨?_, HAF.out⟩⟩
        rw [HPT.out]
        exact (HV6.out.agrees HGF.out fun b hb => by omega).mono fun b hb => .inl hb.1
end Suture
/-
  WHAT THE DOCUMENT SAYS OF NONE, in plain Lean: a page that stands right on one disk alone.
  Conditions: none.
-/
namespace Suture
open Go Go.RowKit Go.Proofs

def pageW : List (BitVec 8) := 1#8 :: 2#8 :: 3#8 :: List.replicate 253 0#8
theorem pageW_len : pageW.length = 256 := by decide +kernel
theorem sumW_ne : (sum pageW == sum noPage) = false := by
  have h := sum_burst [] [1#8, 2#8, 3#8] [0#8, 0#8, 0#8] (List.replicate 253 0#8) rfl (by decide)
  have hne : sum pageW ≠ sum noPage := fun e => by
    have := h.1 e
    simp at this
  simpa using hne
def xW : Ptr := ⟨3, 7, 0, 1, sum pageW⟩
theorem xW_of : ptrOf 3 7 0 1 pageW = xW := by
  unfold ptrOf xW w16
  rfl
def QW : Pair := ⟨fresh 32, (fresh 32).put 7 pageW, -1, false⟩
def OW : Pair := ⟨(fresh 32).put 7 pageW, (fresh 32).put 7 pageW, -1, false⟩
theorem read_fresh : (fresh 32).read 7 = (noPage, 0) := by decide +kernel
theorem read_put : ((fresh 32).put 7 pageW).read 7 = (pageW, 0) := by decide +kernel
theorem writeE_fresh : (fresh 32).writeE 7 = 0 := by decide +kernel
theorem putW : freshP.put 1 7 pageW = QW ∧ freshP.putE 1 7 = 0 := by
  have e : freshP.putE 1 7 = 0 := by
    show (if (true : Bool) then (fresh 32).writeE 7 else 100) = 0
    rw [writeE_fresh]; rfl
  refine ⟨?_, e⟩
  unfold Pair.put
  rw [if_pos e]
  rfl
theorem putQ : QW.put 0 7 pageW = OW ∧ QW.putE 0 7 = 0 := by
  have e : QW.putE 0 7 = 0 := by
    show (if (true : Bool) then (fresh 32).writeE 7 else 100) = 0
    rw [writeE_fresh]; rfl
  refine ⟨?_, e⟩
  unfold Pair.put
  rw [if_pos e]
  rfl
theorem fitsW : xW.fits pageW = true := by
  show (((3 : Int) != 0) && (sum pageW == sum pageW)) = true
  simp
theorem fits0 : xW.fits noPage = false := by
  show (((3 : Int) != 0) && (sum pageW == sum noPage)) = false
  rw [sumW_ne]; rfl
theorem foundQ : QW.found xW = [(0, 7), (1, 7)] := by rfl
theorem foundO : OW.found xW = [(0, 7), (1, 7)] := by rfl
theorem rightQ0 : QW.isRight xW (0, 7) = false := by
  unfold Pair.isRight Pair.has
  show ((((fresh 32).read 7).2 == 0) && xW.fits ((fresh 32).read 7).1) = false
  rw [read_fresh]; simp [fits0]
theorem rightQ1 : QW.isRight xW (1, 7) = true := by
  unfold Pair.isRight Pair.has
  show (((((fresh 32).put 7 pageW).read 7).2 == 0) && xW.fits (((fresh 32).put 7 pageW).read 7).1) = true
  rw [read_put]; simp [fitsW]
theorem rightO0 : OW.isRight xW (0, 7) = true := by
  unfold Pair.isRight Pair.has
  show (((((fresh 32).put 7 pageW).read 7).2 == 0) && xW.fits (((fresh 32).put 7 pageW).read 7).1) = true
  rw [read_put]; simp [fitsW]
theorem rightO1 : OW.isRight xW (1, 7) = true := by
  unfold Pair.isRight Pair.has
  show (((((fresh 32).put 7 pageW).read 7).2 == 0) && xW.fits (((fresh 32).put 7 pageW).read 7).1) = true
  rw [read_put]; simp [fitsW]
theorem hasQ1 : QW.has (1, 7) = pageW := by
  unfold Pair.has
  show (((fresh 32).put 7 pageW).read 7).1 = pageW
  rw [read_put]
theorem look0 : freshP.look Ptr.zero false = (noPage, freshP, ⟨0, 0, 0⟩, 2) := by
  have e : freshP.asked Ptr.zero = 2 := by rfl
  unfold Pair.look
  rw [if_pos (by rw [e]; decide), e]
theorem lookW : QW.look xW false = (pageW, OW, ⟨2, 1, 1⟩, 0) := by
  have e : QW.asked xW = 0 := by rfl
  have hs : QW.seen xW false = [(0, 7), (1, 7)] := by
    unfold Pair.seen
    rw [foundQ]
    simp [lookN, rightQ0, rightQ1]
  have hb : QW.seenBad xW false = [(0, 7)] := by
    unfold Pair.seenBad
    rw [hs]
    simp [rightQ0, rightQ1]
  have hp : QW.pageIn xW [(0, 7), (1, 7)] = pageW := by
    unfold Pair.pageIn
    simp [rightQ0, rightQ1, hasQ1]
  unfold Pair.look
  rw [if_neg (by simp [e])]
  rw [hs, hb]
  simp only [List.any_cons, List.any_nil, rightQ0, rightQ1, hp, mendAll]
  simp [putQ.1, putQ.2]
theorem badQ : (QW.bad xW).length = 1 := by
  have h : xW.right QW.size = true := by rfl
  unfold Pair.bad Pair.bads
  rw [if_pos h, foundQ]
  simp [rightQ0, rightQ1]
theorem badO : (OW.bad xW).length = 0 := by
  have h : xW.right OW.size = true := by rfl
  unfold Pair.bad Pair.bads
  rw [if_pos h, foundO]
  simp [rightO0, rightO1]
theorem sizeW : freshP.size = 32 := by rfl
theorem lowF : freshP.low := by constructor <;> decide +kernel
theorem lowQ : QW.low := by constructor <;> decide +kernel
theorem lowO : OW.low := by constructor <;> decide +kernel
theorem xW_ok : xW.ok := by simp [Ptr.ok, xW]
theorem zero_ok : Ptr.zero.ok := by simp [Ptr.ok, Ptr.zero]
end Suture
/-
  PAGES AND TALLIES compared; a box made and filled at once.
  Conditions: none beyond each theorem's own.
-/
namespace Suture
open Go Go.RowKit Go.Proofs
attribute [local go_sem] Oper.semAt_some

theorem wpList_eql {P : Program} {m : Nat} {t ty : TypeId} (hK : Keyable P m t) {xs ys : Array Value} (hx : Keyed P m t xs) (hy : Keyed P m t ys) {ops : Array Oper} {rest : List Oper} {o : Oper} {a : Act} {w : World} {Q : Exit → Act → World → Prop} {x y : Operand}
    (hw : Region.wanted o (yielded ops a.tmps) = true) (ho : o.op = .binOp .eql t x y ty) (ex : a.eval x = .agg xs) (ey : a.eval y = .agg ys) (k : ∀ r : Bool, (r = true ↔ xs = ys) → wpList P ops Q rest (a.put o.dst (.bool r)) w) :
    wpList P ops Q (o :: rest) a w := by
  obtain ⟨r, hr, hiff⟩ := ex_eql hK hx hy (w := w) ho ex ey
  exact wpList_val hw hr (k r hiff)
theorem wpList_neq {P : Program} {m : Nat} {t ty : TypeId} (hK : Keyable P m t) {xs ys : Array Value} (hx : Keyed P m t xs) (hy : Keyed P m t ys) {ops : Array Oper} {rest : List Oper} {o : Oper} {a : Act} {w : World} {Q : Exit → Act → World → Prop} {x y : Operand}
    (hw : Region.wanted o (yielded ops a.tmps) = true) (ho : o.op = .binOp .neq t x y ty) (ex : a.eval x = .agg xs) (ey : a.eval y = .agg ys) (k : ∀ r : Bool, (r = true ↔ xs = ys) → wpList P ops Q rest (a.put o.dst (.bool (!r))) w) :
    wpList P ops Q (o :: rest) a w := by
  obtain ⟨r, hr, hiff⟩ := ex_neq hK hx hy (w := w) ho ex ey
  exact wpList_val hw hr (k r hiff)
theorem keyable_page : Keyable Try.prog 2 32 := ⟨by decide, by kernel_rfl, by kernel_rfl, by kernel_rfl⟩
theorem keyed_page (p : List (BitVec 8)) (hl : p.length = 256) : Keyed Try.prog 2 32 (pageCells p) :=
  keyed_ints Try.underlying32 Try.underlying5 (by kernel_rfl) (by kernel_rfl) _ (by rw [pageCells_size, hl]) (fun i hi => by
    obtain ⟨z, hz, hw⟩ := wf_u8 (p.getD i 0)
    exact ⟨z, by rw [pageCells_get p i (by omega), hz], hw⟩)
theorem B_inj {a b : BitVec 8} (h : B a = B b) : a = b := by
  unfold B at h
  injection h with _ h
  exact BitVec.eq_of_toNat_eq (by omega)
theorem pageCells_inj {p q : List (BitVec 8)} (h : pageCells p = pageCells q) : p = q := by
  rw [pageCells_def, pageCells_def] at h
  have h2 : p.map B = q.map B := by simpa using congrArg Array.toList h
  exact (List.map_inj_right (fun _ _ => B_inj)).1 h2
theorem pageEq_of {p q : List (BitVec 8)} {r : Bool} (h : r = true ↔ pageCells p = pageCells q) : r = (p == q) := by
  have h2 : r = true ↔ (p == q) = true := h.trans ⟨fun e => by rw [pageCells_inj e]; simp, fun e => by rw [eq_of_beq e]⟩
  cases r <;> cases hq : (p == q) <;> simp_all
theorem keyable_tally : Keyable Try.prog 2 57 := ⟨by decide, by kernel_rfl, by kernel_rfl, by kernel_rfl⟩
theorem keyed_tally (t : Tal) (h : in64 t.r ∧ in64 t.b ∧ in64 t.m) : Keyed Try.prog 2 57 t.cells := by
  obtain ⟨r, b, m⟩ := t
  simp only [in64] at h
  have w0 : (Lit.int .i64 r).wf = true := by simp [Lit.wf, IntKind.min, IntKind.max, IntKind.signed, IntKind.bits]; omega
  have w1 : (Lit.int .i64 b).wf = true := by simp [Lit.wf, IntKind.min, IntKind.max, IntKind.signed, IntKind.bits]; omega
  have w2 : (Lit.int .i64 m).wf = true := by simp [Lit.wf, IntKind.min, IntKind.max, IntKind.signed, IntKind.bits]; omega
  have c0 : Try.prog.cellsOf 57 = 3 := by kernel_rfl
  have c1 : Try.prog.cellsOf 3 = 1 := by kernel_rfl
  refine ⟨by simp [Value.formed, Try.underlying57, c0, Tal.cells], [.int .i64 r, .int .i64 b, .int .i64 m], ?_⟩
  have k : ∀ a, (Lit.int .i64 a).wf = true → Try.prog.keyLits 1 3 [.int .i64 a] = some [.int .i64 a] := fun a h => by unfold Program.keyLits; simp [Try.underlying3, h]
  simp only [Tal.cells]
  unfold Program.keyLits
  simp only [Try.underlying57]
  simp [c0, c1, k r w0, k b w1, k m w2]

/-- a new box, filled -/
theorem box_new (W : World) (z vs : Array Value) (t : TypeId) : ∃ W1 W2, W.alloc (.cells z t) = W1 ∧ W1.setRow W.heap.size vs = W2 ∧ W1.heap[W.heap.size]? = some (.cells z t (0, 0)) ∧ W2.heap[W.heap.size]? = some (.cells vs t (0, 0)) ∧ Agrees All W W2 := by
  have h := World.alloc_heap_new W (.cells z t)
  exact ⟨_, _, rfl, rfl, h, setRow_heap _ _ _ _ _ _ h, ((Agrees.refl _ _).alloc _).setRow (.inr (Nat.le_refl _)) _⟩
/-- three new boxes, filled one behind the other -/
theorem box_new3 (W : World) (z1 z2 z3 v1 v2 v3 : Array Value) (t1 t2 t3 : TypeId) : ∃ A1 A2 A3 S1 S2 S3, W.alloc (.cells z1 t1) = A1 ∧ A1.alloc (.cells z2 t2) = A2 ∧ A2.alloc (.cells z3 t3) = A3 ∧ A3.setRow W.heap.size v1 = S1 ∧ S1.setRow (W.heap.size + 1) v2 = S2 ∧ S2.setRow (W.heap.size + 1 + 1) v3 = S3 ∧
    A1.heap.size = W.heap.size + 1 ∧ A2.heap.size = W.heap.size + 1 + 1 ∧ A3.heap[W.heap.size]? = some (.cells z1 t1 (0, 0)) ∧ S1.heap[W.heap.size + 1]? = some (.cells z2 t2 (0, 0)) ∧ S2.heap[W.heap.size + 1 + 1]? = some (.cells z3 t3 (0, 0)) ∧
    S3.heap[W.heap.size]? = some (.cells v1 t1 (0, 0)) ∧ S3.heap[W.heap.size + 1]? = some (.cells v2 t2 (0, 0)) ∧ S3.heap[W.heap.size + 1 + 1]? = some (.cells v3 t3 (0, 0)) ∧ Agrees All W S3 := by
  have s1 : (W.alloc (.cells z1 t1)).heap.size = W.heap.size + 1 := World.size_alloc _ _
  have s2 : ((W.alloc (.cells z1 t1)).alloc (.cells z2 t2)).heap.size = W.heap.size + 1 + 1 := by rw [World.size_alloc, s1]
  have a1 : (((W.alloc (.cells z1 t1)).alloc (.cells z2 t2)).alloc (.cells z3 t3)).heap[W.heap.size]? = some (.cells z1 t1 (0, 0)) := row_old (row_old (row_new _ rfl))
  have a2 : (((W.alloc (.cells z1 t1)).alloc (.cells z2 t2)).alloc (.cells z3 t3)).heap[W.heap.size + 1]? = some (.cells z2 t2 (0, 0)) := row_old (row_new _ s1)
  have a3 : (((W.alloc (.cells z1 t1)).alloc (.cells z2 t2)).alloc (.cells z3 t3)).heap[W.heap.size + 1 + 1]? = some (.cells z3 t3 (0, 0)) := row_new _ s2
  have hag : Agrees All W (((W.alloc (.cells z1 t1)).alloc (.cells z2 t2)).alloc (.cells z3 t3)) := (((Agrees.refl _ _).alloc _).alloc _).alloc _
  generalize hA : (((W.alloc (.cells z1 t1)).alloc (.cells z2 t2)).alloc (.cells z3 t3)) = A at *
  refine ⟨_, _, A, _, _, _, rfl, rfl, hA, rfl, rfl, rfl, s1, s2, a1, ?_, ?_, ?_, ?_, ?_, ((hag.setRow (.inr (Nat.le_refl _)) _).setRow (.inr (by omega)) _).setRow (.inr (by omega)) _⟩
  · rw [setRow_other _ _ _ _ (by omega)]; exact a2
  · rw [setRow_other _ _ _ _ (by omega), setRow_other _ _ _ _ (by omega)]; exact a3
  · rw [setRow_other _ _ _ _ (by omega), setRow_other _ _ _ _ (by omega)]
    exact setRow_heap _ _ _ _ _ _ a1
  · rw [setRow_other _ _ _ _ (by omega)]
    exact setRow_heap _ _ _ _ _ _ (by rw [setRow_other _ _ _ _ (by omega)]; exact a2)
  · exact setRow_heap _ _ _ _ _ _ (by rw [setRow_other _ _ _ _ (by omega), setRow_other _ _ _ _ (by omega)]; exact a3)
end Suture
/-
  suturelaw11.wakes: what the document says of none; and of a page that stands right on one disk alone.
  Conditions: none.
-/
namespace Suture
open Go Go.RowKit Go.Proofs
attribute [local go_sem] Oper.semAt_some

theorem build_pageW (w : World) : (Instr.build 32 #[(0, .int .u8 1), (1, .int .u8 2), (2, .int .u8 3)]).run Try.prog w = .ok (.agg (pageCells pageW)) w := by
  rw [pageCells_def]
  kernel_rfl
theorem ex_buildW {o : Oper} {a : Act} {w : World} (ho : o.op = .build 32 #[(0, .const (.int .u8 1)), (1, .const (.int .u8 2)), (2, .const (.int .u8 3))]) : (execOp a.eval o).run Try.prog w = .ok (.value (.agg (pageCells pageW))) w := by
  unfold execOp
  simp only [ho, List.map_toArray, List.map_cons, List.map_nil, Act.eval, Sem.run_bind, build_pageW, Result.andThen_ok]
  rfl

set_option maxHeartbeats 8000000 in
set_option maxRecDepth 100000 in
theorem wakes_calls (w : World) : Calls Try.prog 19 #[] w fun e w' => e = .returned (.bool true) ∧ Agrees All w w' := by
  have HPN := Lib.hid (show (pageCells noPage).size = 256 by rw [pageCells_size]; exact noPage_len)
  have HPW := Lib.hid (show (pageCells pageW).size = 256 by rw [pageCells_size]; exact pageW_len)
  go_enter Try.func19, Try.ntmps19
  go_wp2_with fail
  refine (rmake_calls w).mono ?_
  rintro e W1 ⟨v0, rfl, h0⟩
  obtain ⟨A1, W2, hA1, hW2, hz1, hr1, hg2⟩ := box_new W1 PV.zero.cells v0.cells 40
  have HP2 := Lib.hid (h0.out.1.agrees hg2 fun _ _ => trivial)
  have HSZ : RowKit.Hid (v0.size = 32 ∧ v0.small) := ⟨by rw [← h0.out.1.size]; exact sizeW, h0.out.1.small lowF⟩
  have HA2 := Lib.hid (h0.out.2.trans hg2)
  have HR1 := Lib.hid hr1
  have HZ1 := Lib.hid hz1
  have hlt1 := (Array.getElem?_eq_some_iff.1 hr1).1
  have HRD := Lib.hid (fread_calls _ v0 freshP Ptr.zero zero_ok W2 (h0.out.1.agrees hg2 fun _ _ => trivial) lowF)
  rw [look0] at HRD
  clear h0 hz1 hr1 hg2
  go_wp2_with (first
    | (refine wpList_val rfl (ex_alloc rfl (.agg PV.zero.cells) zero_pair) ?_; rw [show (Value.agg PV.zero.cells).cells = PV.zero.cells from rfl, hA1])
    | (refine wpList_unit rfl (ex_storeAll (ty := 40) rfl isAgg_pair.2 W1.heap.size rfl v0.cells PV.zero.cells rfl rfl HZ1.out rfl (PV.one _)) ?_; rw [hW2])
    | (refine wpList_val rfl (ex_load (ty := 40) rfl isAgg_pair W1.heap.size 0 rfl v0.cells rfl (PV.load _ HR1.out)) ?_))
  refine HRD.out.mono ?_
  rintro e W3 ⟨v1, rfl, hP3, hg3⟩
  simp only
  obtain ⟨A1', A2, A3, S1, S2, W4, hA1', hA2, hA3, hS1, hS2, hS3, hsA1, hsA2, hz1, hz2, hz3, _, _, _, hg4⟩ := box_new3 W3 (pageCells noPage) PV.zero.cells (Tal.mk 0 0 0).cells (pageCells noPage) v1.cells (Tal.mk 0 0 0).cells 32 40 57
  have HZ1 := Lib.hid hz1
  have HZ2 := Lib.hid hz2
  have HZ3 := Lib.hid hz3
  have hg24 := hg3.trans hg4
  have HP4 := Lib.hid (HP2.out.agrees hg24 fun _ _ => trivial)
  have HA4 := Lib.hid (HA2.out.trans hg24)
  have HR1' := Lib.hid ((hg24.block _ (Array.getElem?_eq_some_iff.1 HR1.out).1 trivial).trans HR1.out)
  clear hz1 hz2 hz3 hg3 hg4 hg24 hP3 HRD HA2 HP2 HR1 hA1 hW2
  obtain ⟨B1, W5, hB1, hW5, hzb, hr7, hg5⟩ := box_new W4 (pageCells noPage) (pageCells pageW) 32
  have HZB := Lib.hid hzb
  have HR7 := Lib.hid hr7
  have HP5 := Lib.hid (HP4.out.agrees hg5 fun _ _ => trivial)
  have HA5 := Lib.hid (HA4.out.trans hg5)
  have HR1 := Lib.hid ((hg5.block _ (Array.getElem?_eq_some_iff.1 HR1'.out).1 trivial).trans HR1'.out)
  clear hzb hr7 hg5 HP4 HA4 HR1'
  go_wp2_with (first
    | (refine wpList_val rfl (ex_alloc rfl (.agg (pageCells noPage)) zero_page) ?_; rw [show (Value.agg (pageCells noPage)).cells = pageCells noPage from rfl]; first | rw [hA1'] | rw [hB1])
    | (refine wpList_val rfl (ex_alloc rfl (.agg PV.zero.cells) zero_pair) ?_; rw [show (Value.agg PV.zero.cells).cells = PV.zero.cells from rfl, hA2, hsA1])
    | (refine wpList_val rfl (ex_alloc rfl (.agg (Tal.mk 0 0 0).cells) zero_tally) ?_; rw [show (Value.agg (Tal.mk 0 0 0).cells).cells = (Tal.mk 0 0 0).cells from rfl, hA3, hsA2])
    | (refine wpList_unit rfl (ex_storeAll (ty := 32) rfl isAgg_page.2 W3.heap.size rfl (pageCells noPage) (pageCells noPage) rfl HPN.out HZ1.out HPN.out (pageCells_one _)) ?_; rw [hS1])
    | (refine wpList_unit rfl (ex_storeAll (ty := 40) rfl isAgg_pair.2 (W3.heap.size + 1) rfl v1.cells PV.zero.cells rfl rfl HZ2.out rfl (PV.one _)) ?_; rw [hS2])
    | (refine wpList_unit rfl (ex_storeAll (ty := 57) rfl isAgg_tally.2 (W3.heap.size + 1 + 1) rfl (Tal.mk 0 0 0).cells (Tal.mk 0 0 0).cells rfl rfl HZ3.out rfl (Tal.one _)) ?_; rw [hS3])
    | (refine wpList_val rfl (ex_buildW rfl) ?_)
    | (refine wpList_unit rfl (ex_storeAll (ty := 32) rfl isAgg_page.2 W4.heap.size rfl (pageCells pageW) (pageCells noPage) rfl HPW.out HZB.out HPN.out (pageCells_one _)) ?_; rw [hW5])
    | (refine wpList_val rfl (ex_load (ty := 32) rfl isAgg_page W4.heap.size 0 rfl (pageCells pageW) HPW.out (fun j _ => by rw [Nat.zero_add]; exact cell_of_row _ _ _ _ _ _ HR7.out)) ?_))
  refine (rof_calls 3 7 0 1 pageW pageW_len W5).mono ?_
  rintro e W6 ⟨rfl, hg6⟩
  rw [xW_of]
  obtain ⟨C1, W7, hC1, hW7, hz8, hr8, hg7⟩ := box_new W6 Ptr.zero.cells xW.cells 48
  have hg57 := hg6.trans hg7
  have HZ8 := Lib.hid hz8
  have HR8 := Lib.hid hr8
  have HP7 := Lib.hid (HP5.out.agrees hg57 fun _ _ => trivial)
  have HA7 := Lib.hid (HA5.out.trans hg57)
  have HR1' := Lib.hid ((hg57.block _ (Array.getElem?_eq_some_iff.1 HR1.out).1 trivial).trans HR1.out)
  have HR7' := Lib.hid ((hg57.block _ (Array.getElem?_eq_some_iff.1 HR7.out).1 trivial).trans HR7.out)
  have HPUT : RowKit.Hid (Calls Try.prog 21 #[.agg v0.cells, .int .i64 1, .int .i64 7, .agg (pageCells pageW)] W7 fun e w' => ∃ v' : PV, e = .returned (.tuple #[.agg v'.cells, .int .i64 0]) ∧ RowKit.Hid (PairAt (fun b => w.heap.size ≤ b ∨ W7.heap.size ≤ b) w' v' QW ∧ Agrees All W7 w')) := by
    have h := rput_calls _ v0 freshP 1 (by omega) 7 pageW pageW_len (by unfold in64; omega) W7 HP7.out (HP7.out.small lowF)
    rw [putW.1, putW.2] at h
    exact Lib.hid h
  clear hz8 hr8 hg6 hg7 hg57 HP5 HA5 HR1 HR7 hA1' hA2 hA3 hS1 hS2 hS3 hsA1 hsA2 hB1 hW5 HZB HZ1 HZ2 HZ3 hlt1
  go_wp2_with (first
    | (refine wpList_val rfl (ex_alloc rfl (.agg Ptr.zero.cells) zero_ptr) ?_; rw [show (Value.agg Ptr.zero.cells).cells = Ptr.zero.cells from rfl, hC1])
    | (refine wpList_unit rfl (ex_storeAll (ty := 48) rfl isAgg_ptr.2 W6.heap.size rfl xW.cells Ptr.zero.cells rfl rfl HZ8.out rfl (Ptr.one _)) ?_; rw [hW7])
    | (refine wpList_val rfl (ex_load (ty := 40) rfl isAgg_pair W1.heap.size 0 rfl v0.cells rfl (PV.load _ HR1'.out)) ?_)
    | (refine wpList_val rfl (ex_load (ty := 32) rfl isAgg_page W4.heap.size 0 rfl (pageCells pageW) HPW.out (fun j _ => by rw [Nat.zero_add]; exact cell_of_row _ _ _ _ _ _ HR7'.out)) ?_))
  refine HPUT.out.mono ?_
  rintro e W8 ⟨v2, rfl, h8⟩
  obtain ⟨D1, W9, hD1, hW9, hz9, hr9, hg9⟩ := box_new W8 PV.zero.cells v2.cells 40
  have hg79 := h8.out.2.trans hg9
  have HZ9 := Lib.hid hz9
  have HR9 := Lib.hid hr9
  have HQ9 := Lib.hid (h8.out.1.agrees hg9 fun _ _ => trivial)
  have HA9 := Lib.hid (HA7.out.trans hg79)
  have HR1 := Lib.hid ((hg79.block _ (Array.getElem?_eq_some_iff.1 HR1'.out).1 trivial).trans HR1'.out)
  have HR7 := Lib.hid ((hg79.block _ (Array.getElem?_eq_some_iff.1 HR7'.out).1 trivial).trans HR7'.out)
  have HR8' := Lib.hid ((hg79.block _ (Array.getElem?_eq_some_iff.1 HR8.out).1 trivial).trans HR8.out)
  have HRD := Lib.hid (fread_calls _ v2 QW xW xW_ok W9 HQ9.out lowQ)
  rw [lookW] at HRD
  clear hz9 hr9 hg9 hg79 h8 HA7 HR1' HR7' HR8 HPUT HP7
  go_wp2_with (first
    | (refine wpList_val rfl (ex_alloc rfl (.agg PV.zero.cells) zero_pair) ?_; rw [show (Value.agg PV.zero.cells).cells = PV.zero.cells from rfl, hD1])
    | (refine wpList_unit rfl (ex_storeAll (ty := 40) rfl isAgg_pair.2 W8.heap.size rfl v2.cells PV.zero.cells rfl rfl HZ9.out rfl (PV.one _)) ?_; rw [hW9])
    | (refine wpList_val rfl (ex_load (ty := 40) rfl isAgg_pair W8.heap.size 0 rfl v2.cells rfl (PV.load _ HR9.out)) ?_)
    | (refine wpList_val rfl (ex_load (ty := 48) rfl isAgg_ptr W6.heap.size 0 rfl xW.cells rfl (Ptr.load _ HR8'.out)) ?_))
  refine HRD.out.mono ?_
  rintro e W10 ⟨v3, rfl, hO10, hg10⟩
  simp only
  obtain ⟨A1', A2, A3, S1, S2, W11, hA1', hA2, hA3, hS1, hS2, hS3, hsA1, hsA2, hz1, hz2, hz3, hr11, hr12, hr13, hg11⟩ := box_new3 W10 (pageCells noPage) PV.zero.cells (Tal.mk 0 0 0).cells (pageCells pageW) v3.cells (Tal.mk 2 1 1).cells 32 40 57
  have hg := hg10.trans hg11
  have HZ1 := Lib.hid hz1
  have HZ2 := Lib.hid hz2
  have HZ3 := Lib.hid hz3
  have HR11 := Lib.hid hr11
  have HR12 := Lib.hid hr12
  have HR13 := Lib.hid hr13
  have HO11 := Lib.hid (hO10.agrees hg11 fun _ _ => trivial)
  have HQ11 := Lib.hid (HQ9.out.agrees hg fun _ _ => trivial)
  have HA11 := Lib.hid (HA9.out.trans hg)
  have HR1' := Lib.hid ((hg.block _ (Array.getElem?_eq_some_iff.1 HR1.out).1 trivial).trans HR1.out)
  have HR7' := Lib.hid ((hg.block _ (Array.getElem?_eq_some_iff.1 HR7.out).1 trivial).trans HR7.out)
  have HR8 := Lib.hid ((hg.block _ (Array.getElem?_eq_some_iff.1 HR8'.out).1 trivial).trans HR8'.out)
  have HR9' := Lib.hid ((hg.block _ (Array.getElem?_eq_some_iff.1 HR9.out).1 trivial).trans HR9.out)
  have HBQ := Lib.hid (bad_calls v2 QW xW xW_ok W11 (HQ11.out.mono fun _ _ => trivial) (HQ11.out.small lowQ))
  rw [badQ] at HBQ
  have HKP := Lib.hid (keyed_page pageW pageW_len)
  have HKT := Lib.hid (keyed_tally ⟨2, 1, 1⟩ (by simp [in64]))
  clear hz1 hz2 hz3 hr11 hr12 hr13 hg hg10 hg11 hO10 HQ9 HA9 HR1 HR7 HR8' HR9 HRD hC1 hW7 hD1 hW9 HZ8 HZ9
  go_wp2_with (first
    | (refine wpList_val rfl (ex_alloc rfl (.agg (pageCells noPage)) zero_page) ?_; rw [show (Value.agg (pageCells noPage)).cells = pageCells noPage from rfl, hA1'])
    | (refine wpList_val rfl (ex_alloc rfl (.agg PV.zero.cells) zero_pair) ?_; rw [show (Value.agg PV.zero.cells).cells = PV.zero.cells from rfl, hA2, hsA1])
    | (refine wpList_val rfl (ex_alloc rfl (.agg (Tal.mk 0 0 0).cells) zero_tally) ?_; rw [show (Value.agg (Tal.mk 0 0 0).cells).cells = (Tal.mk 0 0 0).cells from rfl, hA3, hsA2])
    | (refine wpList_unit rfl (ex_storeAll (ty := 32) rfl isAgg_page.2 W10.heap.size rfl (pageCells pageW) (pageCells noPage) rfl HPW.out HZ1.out HPN.out (pageCells_one _)) ?_; rw [hS1])
    | (refine wpList_unit rfl (ex_storeAll (ty := 40) rfl isAgg_pair.2 (W10.heap.size + 1) rfl v3.cells PV.zero.cells rfl rfl HZ2.out rfl (PV.one _)) ?_; rw [hS2])
    | (refine wpList_unit rfl (ex_storeAll (ty := 57) rfl isAgg_tally.2 (W10.heap.size + 1 + 1) rfl (Tal.mk 2 1 1).cells (Tal.mk 0 0 0).cells rfl rfl HZ3.out rfl (Tal.one _)) ?_; rw [hS3])
    | (refine wpList_val rfl (ex_load (ty := 32) rfl isAgg_page W10.heap.size 0 rfl (pageCells pageW) HPW.out (fun j _ => by rw [Nat.zero_add]; exact cell_of_row _ _ _ _ _ _ HR11.out)) ?_)
    | (refine wpList_val rfl (ex_load (ty := 32) rfl isAgg_page W4.heap.size 0 rfl (pageCells pageW) HPW.out (fun j _ => by rw [Nat.zero_add]; exact cell_of_row _ _ _ _ _ _ HR7'.out)) ?_)
    | (refine wpList_eql keyable_page HKP.out HKP.out rfl rfl rfl rfl ?_; intro r hr; obtain rfl := hr.2 rfl)
    | (refine wpList_val rfl (ex_load (ty := 57) rfl isAgg_tally (W10.heap.size + 1 + 1) 0 rfl (Tal.mk 2 1 1).cells rfl (fun j _ => by rw [Nat.zero_add]; exact cell_of_row _ _ _ _ _ _ HR13.out)) ?_)
    | (refine wpList_eql keyable_tally HKT.out HKT.out rfl rfl rfl rfl ?_; intro r hr; obtain rfl := hr.2 rfl)
    | (refine wpList_val rfl (ex_load (ty := 40) rfl isAgg_pair W8.heap.size 0 rfl v2.cells rfl (PV.load _ HR9'.out)) ?_)
    | (refine wpList_val rfl (ex_load (ty := 48) rfl isAgg_ptr W6.heap.size 0 rfl xW.cells rfl (Ptr.load _ HR8.out)) ?_))
  refine HBQ.out.mono ?_
  rintro e W12 ⟨u1, rfl, hu1, hg12⟩
  obtain ⟨ua, uc, rfl⟩ := own_slice hu1
  have HO12 := Lib.hid (HO11.out.agrees hg12 fun _ _ => trivial)
  have HR1 := Lib.hid ((hg12.block _ (Array.getElem?_eq_some_iff.1 HR1'.out).1 trivial).trans HR1'.out)
  have HR8' := Lib.hid ((hg12.block _ (Array.getElem?_eq_some_iff.1 HR8.out).1 trivial).trans HR8.out)
  have HR12' := Lib.hid ((hg12.block _ (Array.getElem?_eq_some_iff.1 HR12.out).1 trivial).trans HR12.out)
  have HA12 := Lib.hid (HA11.out.trans hg12)
  have HBO := Lib.hid (bad_calls v3 OW xW xW_ok W12 (HO12.out.mono fun _ _ => trivial) (HO12.out.small lowO))
  rw [badO] at HBO
  clear hu1 hg12 HO11 HR1' HR8 HR12 HA11 HBQ hA1' hA2 hA3 hS1 hS2 hS3 hsA1 hsA2 HZ1 HZ2 HZ3 HR11 HR13 HQ11 HR7' HR9'
  go_wp2_with (first
    | (refine wpList_val rfl (ex_load (ty := 40) rfl isAgg_pair (W10.heap.size + 1) 0 rfl v3.cells rfl (PV.load _ HR12'.out)) ?_)
    | (refine wpList_val rfl (ex_load (ty := 48) rfl isAgg_ptr W6.heap.size 0 rfl xW.cells rfl (Ptr.load _ HR8'.out)) ?_))
  refine HBO.out.mono ?_
  rintro e W13 ⟨u2, rfl, hu2, hg13⟩
  obtain ⟨ub, ud, rfl⟩ := own_slice hu2
  have HR1' := Lib.hid ((hg13.block _ (Array.getElem?_eq_some_iff.1 HR1.out).1 trivial).trans HR1.out)
  have HA13 := Lib.hid (HA12.out.trans hg13)
  have HSC : RowKit.Hid (Calls Try.prog 40 #[.agg v0.cells] W13 fun e w' => e = .returned (.int .i64 32) ∧ Agrees All W13 w') := by
    have h := size_calls v0 HSZ.out.2 W13
    rw [HSZ.out.1] at h
    exact Lib.hid h
  clear hu2 hg13 HO12 HR1 HR8' HR12' HA12 HBO
  go_wp2_with (refine wpList_val rfl (ex_load (ty := 40) rfl isAgg_pair W1.heap.size 0 rfl v0.cells rfl (PV.load _ HR1'.out)) ?_)
  refine HSC.out.mono ?_
  rintro e W14 ⟨rfl, hg14⟩
  have HF := Lib.hid (HA13.out.trans hg14)
  clear hg14
  go_wp2_with fail
  go_ret
  exact ⟨rfl, HF.out⟩
end Suture
/-
  A PAGE's COPIES, as the document says: sutureref10.Copies.
  Conditions: none.
-/
namespace Suture
open Go Go.RowKit Go.Proofs
attribute [local go_sem] Oper.semAt_some

/-- a disk's copies -/
def Ptr.onDisk (x : Ptr) (i : Nat) : List (Int × Int) := if x.isMeta then [((i : Int), x.a0), ((i : Int), x.a1)] else [((i : Int), x.a0)]
def Ptr.upTo (x : Ptr) (i : Nat) : List (Int × Int) := ((List.range i).map x.onDisk).flatten
theorem upTo_succ (x : Ptr) (i : Nat) : x.upTo (i + 1) = x.upTo i ++ x.onDisk i := by
  unfold Ptr.upTo
  rw [List.range_succ, List.map_append, List.flatten_append]; simp
theorem upTo_two (x : Ptr) : x.upTo 2 = x.copies := by
  unfold Ptr.upTo Ptr.copies
  rw [show List.range 2 = [0, 1] from rfl]
  cases h : x.isMeta <;> simp [Ptr.onDisk, h]
theorem upTo_le (x : Ptr) (i : Nat) (h : i ≤ 2) : (x.upTo i).length ≤ 4 := by
  have : i = 0 ∨ i = 1 ∨ i = 2 := by omega
  unfold Ptr.upTo
  rcases this with rfl | rfl | rfl
  · simp
  · rw [show List.range 1 = [0] from rfl]; cases h : x.isMeta <;> simp [Ptr.onDisk, h]
  · rw [show List.range 2 = [0, 1] from rfl]; cases h : x.isMeta <;> simp [Ptr.onDisk, h]

set_option maxHeartbeats 4000000 in
set_option maxRecDepth 100000 in
theorem rcopies_calls (x : Ptr) (hx : x.ok) (w : World) : Calls Try.prog 20 #[.agg x.cells] w fun e w' => ∃ v, e = .returned v ∧ w'.ownsRow w.heap.size 55 2 v x.copies.length (x.copies.map copyL).flatten ∧ Agrees All w w' := by
  obtain ⟨W1, hW1⟩ : ∃ W1, w.alloc (.cells x.cells 48) = W1 := ⟨_, rfl⟩
  have HR := Lib.hid (show W1.heap[w.heap.size]? = some (.cells x.cells 48 (0, 0)) by rw [← hW1]; exact row_new _ rfl)
  have HA := Lib.hid (show Agrees All w W1 by rw [← hW1]; exact (Agrees.refl _ _).alloc _)
  obtain ⟨i0, hi0, hz0, hz1, hz2⟩ := info_parts infoTwo
  obtain ⟨b0, b1, b2, b3⟩ := hx
  have hs1 : W1.heap.size = w.heap.size + 1 := by rw [← hW1]; simp
  go_enter Try.func20, Try.ntmps20
  go_wp2_with fail
  go_loopw [3, 4] (fun vv ii wr => ∃ i : Nat, i ≤ 2 ∧ ii = .int .i64 i ∧ RowKit.Hid (wr.ownsRow (w.heap.size + 1) 55 2 vv (x.upTo i).length ((x.upTo i).map copyL).flatten ∧ Agrees All W1 wr)) (fun _ ii _ => 2 - (intOf ii).toNat)
  case atStart => exact ⟨0, by omega, rfl, Lib.hid ⟨World.ownsRow_nil _ _ _ _, Agrees.refl _ _⟩⟩
  case round =>
    obtain ⟨i, hi, rfl, HW⟩ := hrel
    by_cases hlt : i < 2
    · have hle := upTo_le x i (by omega)
      have hrx := (HW.out.2.block _ (Array.getElem?_eq_some_iff.1 HR.out).1 trivial).trans HR.out
      obtain ⟨W2, hW2⟩ : ∃ W2, wr.alloc (.cells #[.int .i64 (i : Int), .int .i64 x.a0] 55) = W2 := ⟨_, rfl⟩
      have hg2 : Agrees All wr W2 := by rw [← hW2]; exact (Agrees.refl _ _).alloc _
      have hr2 : W2.heap[wr.heap.size]? = some (.cells #[.int .i64 (i : Int), .int .i64 x.a0] 55 (0, 0)) := by rw [← hW2]; exact row_new _ rfl
      have HO2 := Lib.hid (ownsRow_agrees HW.out.1 hg2 fun _ _ => trivial)
      have HS2 : RowKit.Hid (CellsAt All W2 (.slice (some ⟨wr.heap.size, 0, none⟩) 1 1) 2 1 (copyL ((i : Int), x.a0))) :=
        ⟨_, 1, rfl, rfl, by omega, fun j u hu => ⟨wr.heap.size, 0, rfl, trivial, (Array.getElem?_eq_some_iff.1 hr2).1, by rw [Nat.zero_add, cell_of_row _ _ _ _ _ _ hr2]; simpa [copyL] using hu⟩⟩
      have HONE : RowKit.Hid (∀ c : Int × Int, ∀ u ∈ copyL c, u.oneCell' = true) := by
        intro c u hu; simp [copyL] at hu; rcases hu with rfl | rfl <;> rfl
      have hsz2 : w.heap.size + 1 ≤ W2.heap.size := by have := HW.out.2.size; have := hg2.size; omega
      have c1 : wr.cell? ⟨w.heap.size, 1, none⟩ = some (.int .u16 x.a0) := by rw [cell_of_row _ _ _ _ _ _ hrx]; rfl
      have HX2 := Lib.hid ((hg2.block _ (Array.getElem?_eq_some_iff.1 hrx).1 trivial).trans hrx)
      have HG2 := Lib.hid (HW.out.2.trans hg2)
      have hcv : IntKind.i64.wrap x.a0 = x.a0 := by rw [IntKind.wrap_i64]; omega
      have HNX := Lib.hid (upTo_succ x i)
      have HOD : RowKit.Hid (x.onDisk i = if x.isMeta then [((i : Int), x.a0), ((i : Int), x.a1)] else [((i : Int), x.a0)]) := Lib.hid rfl
      generalize hpre : x.upTo i = pre at *
      clear hg2 hr2 hrx hpre hW1
      go_wp2_with (first
        | (refine wpList_val rfl (ex_buildSlice1 (T := 52) rfl rfl Try.underlying52 infoTwo (by decide) (by decide) rfl) ?_; rw [hW2])
        | (at_builtin; refine wpList_append_from rfl _ _ 52 rfl (w.heap.size + 1) 55 i0 (.agg #[.int .i64 0, .int .i64 0]) 2 16 Try.underlying52 hi0 hz0 hz1 hz2 rfl (by decide) u3 pre.length (pre.map copyL).flatten rfl HO2.out (.slice (some ⟨wr.heap.size, 0, none⟩) 1 1) 1 (copyL ((i : Int), x.a0)) rfl HS2.out (HONE.out _) (by simp only [maxLen]; omega) (by omega) hsz2 ?_))
      intro v3 w3 hown3 hgr3
      have hob : ∀ b, u3.ownBlock = some b → w.heap.size + 1 ≤ b := fun b hb => (HO2.out.lt b hb).1
      have hg3 : Agrees (fun b => b < w.heap.size + 1) W2 w3 := (Agrees.refl _ W2).grown' hgr3 (fun b hb => .inr (by have := hob b hb; omega))
      have hx3 := (hg3.block _ (Array.getElem?_eq_some_iff.1 HX2.out).1 (by omega)).trans HX2.out
      have HX3 := Lib.hid hx3
      have HG3 := Lib.hid (HG2.out.young hg3 fun b hb => by omega)
      have HO3 := Lib.hid hown3
      have hsz3 := hg3.size
      have HM := Lib.hid (rmeta_calls x w3)
      clear hob hg3 hx3 hown3 hgr3 HO2 HX2 HG2 HS2 c1 hW2
      go_wp2_with (refine wpList_val rfl (ex_load (ty := 48) rfl isAgg_ptr w.heap.size 0 rfl x.cells rfl (x.load HX3.out)) ?_)
      refine HM.out.mono ?_
      rintro e w4 ⟨rfl, hg4⟩
      have HX4 := Lib.hid ((hg4.block _ (Array.getElem?_eq_some_iff.1 HX3.out).1 trivial).trans HX3.out)
      have HG4 := Lib.hid (HG3.out.trans hg4)
      have HO4 := Lib.hid (ownsRow_agrees HO3.out hg4 fun _ _ => trivial)
      have hsz4 := hg4.size
      clear hg4 HX3 HG3 HO3 HM
      generalize x.isMeta = m at *
      cases m
      · have HFL : RowKit.Hid ((x.upTo (i + 1)).length = pre.length + 1 ∧ ((x.upTo (i + 1)).map copyL).flatten = (pre.map copyL).flatten ++ copyL ((i : Int), x.a0)) := by
          rw [HNX.out, HOD.out]; exact Lib.hid ⟨by simp, by simp⟩
        go_wp2_with fail
        refine ⟨⟨i + 1, by omega, by simp, Lib.hid ⟨?_, HG4.out⟩⟩, by simp [intOf]; omega⟩
        rw [HFL.out.1, HFL.out.2]
        exact HO4.out
      · have HFL : RowKit.Hid ((x.upTo (i + 1)).length = pre.length + 1 + 1 ∧ ((x.upTo (i + 1)).map copyL).flatten = (pre.map copyL).flatten ++ copyL ((i : Int), x.a0) ++ copyL ((i : Int), x.a1)) := by
          rw [HNX.out, HOD.out]; exact Lib.hid ⟨by simp, by simp⟩
        obtain ⟨W5, hW5⟩ : ∃ W5, w4.alloc (.cells #[.int .i64 (i : Int), .int .i64 x.a1] 55) = W5 := ⟨_, rfl⟩
        have hg5 : Agrees All w4 W5 := by rw [← hW5]; exact (Agrees.refl _ _).alloc _
        have hr5 : W5.heap[w4.heap.size]? = some (.cells #[.int .i64 (i : Int), .int .i64 x.a1] 55 (0, 0)) := by rw [← hW5]; exact row_new _ rfl
        have HO5 := Lib.hid (ownsRow_agrees HO4.out hg5 fun _ _ => trivial)
        have HS5 : RowKit.Hid (CellsAt All W5 (.slice (some ⟨w4.heap.size, 0, none⟩) 1 1) 2 1 (copyL ((i : Int), x.a1))) :=
          ⟨_, 1, rfl, rfl, by omega, fun j u hu => ⟨w4.heap.size, 0, rfl, trivial, (Array.getElem?_eq_some_iff.1 hr5).1, by rw [Nat.zero_add, cell_of_row _ _ _ _ _ _ hr5]; simpa [copyL] using hu⟩⟩
        have hsz5 : w.heap.size + 1 ≤ W5.heap.size := by have := hg5.size; omega
        have c2 : w4.cell? ⟨w.heap.size, 2, none⟩ = some (.int .u16 x.a1) := by rw [cell_of_row _ _ _ _ _ _ HX4.out]; rfl
        have HG5 := Lib.hid (HG4.out.trans hg5)
        have hcv1 : IntKind.i64.wrap x.a1 = x.a1 := by rw [IntKind.wrap_i64]; omega
        clear hg5 hr5
        go_wp2_with (first
          | (refine wpList_val rfl (ex_buildSlice1 (T := 52) rfl rfl Try.underlying52 infoTwo (by decide) (by decide) rfl) ?_; rw [hW5])
          | (at_builtin; refine wpList_append_from rfl _ _ 52 rfl (w.heap.size + 1) 55 i0 (.agg #[.int .i64 0, .int .i64 0]) 2 16 Try.underlying52 hi0 hz0 hz1 hz2 rfl (by decide) v3 (pre.length + 1) ((pre.map copyL).flatten ++ copyL ((i : Int), x.a0)) rfl HO5.out (.slice (some ⟨w4.heap.size, 0, none⟩) 1 1) 1 (copyL ((i : Int), x.a1)) rfl HS5.out (HONE.out _) (by simp only [maxLen]; omega) (by omega) hsz5 ?_))
        intro v6 w6 hown6 hgr6
        have hob : ∀ b, v3.ownBlock = some b → w.heap.size + 1 ≤ b := fun b hb => (HO5.out.lt b hb).1
        have hg6 : Agrees (fun b => b < w.heap.size + 1) W5 w6 := (Agrees.refl _ W5).grown' hgr6 (fun b hb => .inr (by have := hob b hb; omega))
        have HG6 := Lib.hid (HG5.out.young hg6 fun b hb => by omega)
        have HO6 := Lib.hid hown6
        clear hob hg6 hown6 hgr6
        go_wp2_with fail
        refine ⟨⟨i + 1, by omega, by simp, Lib.hid ⟨?_, HG6.out⟩⟩, by simp [intOf]; omega⟩
        rw [HFL.out.1, HFL.out.2]
        simpa using HO6.out
    · obtain rfl : i = 2 := by omega
      have hu2 := upTo_two x
      have HF := HW.out
      rw [hu2] at HF
      have HO := Lib.hid HF.1
      have HG := Lib.hid (HA.out.trans HF.2)
      clear HF hu2 HW
      go_wp2_with fail
      go_ret
      exact ⟨_, rfl, ownsRow_base HO.out (by omega), HG.out⟩
end Suture
