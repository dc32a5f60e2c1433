/-
  PAIRS OF DISKS: what a pair's value reads as; mirror.Live, mirror.Burn.
  Conditions: none beyond the pair's own reading.
-/
import Derived.Test.YtmkbchhmeaefeaaFB3
import Derived.Maps.AppendAt
namespace Suture
open Go Go.RowKit Go.Proofs
attribute [local go_sem] Oper.semAt_some

structure Pair where
  d0 : Disk
  d1 : Disk
  fuse : Int
  down : Bool
structure PV where
  d0 : DV
  d1 : DV
  fuse : Int
  down : Bool
def PV.cells (v : PV) : Array Value := #[.slice v.d0.pa v.d0.pn v.d0.pc, .slice v.d0.ca v.d0.cn v.d0.cc, .slice v.d0.ba v.d0.bn v.d0.bc, .bool v.d0.off,
  .slice v.d1.pa v.d1.pn v.d1.pc, .slice v.d1.ca v.d1.cn v.d1.cc, .slice v.d1.ba v.d1.bn v.d1.bc, .bool v.d1.off, .int .i64 v.fuse, .bool v.down]
structure PairAt (R : Nat → Prop) (w : World) (v : PV) (P : Pair) : Prop where
  d0 : DiskAt R w v.d0 P.d0
  d1 : DiskAt R w v.d1 P.d1
  fuse : P.fuse = v.fuse
  down : P.down = v.down
  in64 : in64 v.fuse
theorem PairAt.agrees {R S : Nat → Prop} {w w' : World} {v : PV} {P : Pair} (h : PairAt R w v P) (hag : Agrees S w w') (hS : ∀ b, R b → S b) : PairAt R w' v P :=
  ⟨h.d0.agrees hag hS, h.d1.agrees hag hS, h.fuse, h.down, h.in64⟩
theorem PairAt.mono {R S : Nat → Prop} {w : World} {v : PV} {P : Pair} (h : PairAt R w v P) (hS : ∀ b, R b → S b) : PairAt S w v P := ⟨h.d0.mono hS, h.d1.mono hS, h.fuse, h.down, h.in64⟩
theorem PairAt.bound {R : Nat → Prop} {w : World} {v : PV} {P : Pair} (h : PairAt R w v P) : PairAt (fun b => b < w.heap.size) w v P := ⟨h.d0.bound, h.d1.bound, h.fuse, h.down, h.in64⟩
theorem isAgg_pair : IsAgg Try.prog 40 10 := ⟨⟨_, Try.underlying40, rfl⟩, by kernel_rfl⟩
theorem isAgg_disks : IsAgg Try.prog 38 8 := ⟨⟨_, Try.underlying38, rfl⟩, by kernel_rfl⟩
theorem PV.load (v : PV) {W : World} {b : Nat} {t : TypeId} (h : W.heap[b]? = some (.cells v.cells t (0, 0))) : ∀ j, j < 10 → W.cell? ⟨b, 0 + j, none⟩ = v.cells[j]? := by
  intro j _; rw [cell_of_row _ _ _ _ _ _ h, Nat.zero_add]
theorem PV.one (v : PV) : ∀ u ∈ v.cells, u.oneCell' = true := by
  intro u hu
  simp [PV.cells] at hu
  rcases hu with rfl | rfl | rfl | rfl | rfl | rfl | rfl | rfl | rfl | rfl <;> rfl
def PV.zero : PV := ⟨DV.zero, DV.zero, 0, false⟩
theorem zero_pair (w : World) : (zeroValue 40).run Try.prog w = .ok (.agg PV.zero.cells) w := by kernel_rfl

/-- the fuse and the power behind a write; whether it is carried out -/
def burnF (f : Int) (dn : Bool) : Int × Bool × Bool := if dn then (f, true, false) else if f = 0 then (0, true, false) else if 0 < f then (f - 1, false, true) else (f, false, true)
def PV.burn (v : PV) : PV := { v with fuse := (burnF v.fuse v.down).1, down := (burnF v.fuse v.down).2.1 }
def Pair.burn (P : Pair) : Pair := { P with fuse := (burnF P.fuse P.down).1, down := (burnF P.fuse P.down).2.1 }
def Pair.burns (P : Pair) : Bool := (burnF P.fuse P.down).2.2

theorem results_a1t1' {P : Program} {fn : Func} {p q : Tmp} {ty : TypeId} {n : Nat} (h : fn.results = #[.cell p ty, .tmp q]) (tmps : Array Value) {W : World} {b : Nat} {vs : Array Value} {x : Value} (hp : tmps.getD p undef = .pointer (some ⟨b, 0, none⟩))
    (hA : IsAgg P ty n) (hn : vs.size = n) (hc : ∀ j, j < n → W.cell? ⟨b, 0 + j, none⟩ = vs[j]?) (hq : tmps.getD q undef = x) : (results fn tmps).run P W = .ok (.tuple #[.agg vs, x]) W := by
  rw [results_a1t1 h tmps hp hA hn hc, hq]

set_option maxHeartbeats 2000000 in
theorem burn_calls (v : PV) (hf : in64 v.fuse) (w : World) :
    Calls Try.prog 71 #[.agg v.cells] w fun e w' => e = .returned (.tuple #[.agg v.burn.cells, .bool (burnF v.fuse v.down).2.2]) ∧ Agrees All w w' := by
  obtain ⟨W1, hW1⟩ : ∃ W1, w.alloc (.cells v.cells 40) = W1 := ⟨_, rfl⟩
  obtain ⟨W2, hW2⟩ : ∃ W2, W1.alloc (.cells PV.zero.cells 40) = W2 := ⟨_, rfl⟩
  have hs1 : W1.heap.size = w.heap.size + 1 := by rw [← hW1]; simp
  have hA2 : Agrees All w W2 := by rw [← hW2, ← hW1]; exact ((Agrees.refl _ w).alloc _).alloc _
  have hr0 : W2.heap[w.heap.size]? = some (.cells v.cells 40 (0, 0)) := by
    rw [← hW2, heap_alloc_old _ _ (by omega), ← hW1]; exact World.alloc_heap_new w _
  have hr1 : W2.heap[w.heap.size + 1]? = some (.cells PV.zero.cells 40 (0, 0)) := by
    rw [← hW2, ← hs1]; exact World.alloc_heap_new W1 _
  obtain ⟨⟨pa, pn, pc, ca, cn, cc, ba, bn, bc, off⟩, ⟨pa', pn', pc', ca', cn', cc', ba', bn', bc', off'⟩, f, dn⟩ := v
  simp only at hf
  obtain ⟨V, hV⟩ : ∃ V, V = PV.mk ⟨pa, pn, pc, ca, cn, cc, ba, bn, bc, off⟩ ⟨pa', pn', pc', ca', cn', cc', ba', bn', bc', off'⟩ f dn := ⟨_, rfl⟩
  have c9 : W2.cell? ⟨w.heap.size, 9, none⟩ = some (.bool dn) := by rw [cell_of_row _ _ _ _ _ _ hr0]; rfl
  have c8 : W2.cell? ⟨w.heap.size, 8, none⟩ = some (.int .i64 f) := by rw [cell_of_row _ _ _ _ _ _ hr0]; rfl
  have f9 : W2.frozen? ⟨w.heap.size, 9, none⟩ = false := frozen_of_row _ _ _ _ _ hr0
  have f8 : W2.frozen? ⟨w.heap.size, 8, none⟩ = false := frozen_of_row _ _ _ _ _ hr0
  rw [← hV] at hr0 hW1 ⊢
  have hfin : ∀ (U : PV) (W : World), Agrees (fun b => b ≠ w.heap.size) W2 W → W.heap[w.heap.size]? = some (.cells U.cells 40 (0, 0)) →
      W.heap[w.heap.size + 1]? = some (.cells PV.zero.cells 40 (0, 0)) ∧ (W.setRow (w.heap.size + 1) U.cells).heap[w.heap.size + 1]? = some (.cells U.cells 40 (0, 0)) ∧ Agrees All w (W.setRow (w.heap.size + 1) U.cells) := fun U W h hr => by
    have h1 := (h.block _ (Array.getElem?_eq_some_iff.1 hr1).1 (by omega)).trans hr1
    exact ⟨h1, setRow_heap _ _ _ _ _ _ h1, (((hA2.weak (R := fun b => b < w.heap.size)).trans' h (fun b hb _ => by omega)).mono fun b hb _ => hb).setRow (.inr (by omega)) _⟩
  have HF := Lib.hid hfin
  have HR0 := Lib.hid hr0
  clear hr0 hr1 hA2 hfin
  cases dn
  · by_cases h0 : f = 0
    · obtain ⟨W3, hW3⟩ : ∃ W3, W2.setCell ⟨w.heap.size, 9, none⟩ (.bool true) = W3 := ⟨_, rfl⟩
      have HV : RowKit.Hid (V.burn.cells = (V.cells.setIfInBounds 9 (.bool true)) ∧ (burnF V.fuse V.down).2.2 = false) := by
        rw [hV]; subst h0; exact Lib.hid ⟨rfl, rfl⟩
      have h3 : W3.heap[w.heap.size]? = some (.cells V.burn.cells 40 (0, 0)) := by
        rw [HV.out.1, ← hW3]; exact heap_setCell_same _ _ _ _ _ _ HR0.out
      have H3 := Lib.hid h3
      obtain ⟨hz, hrow, hag⟩ := HF.out V.burn W3 (by rw [← hW3]; exact (Agrees.refl _ _).setCell (.inl (fun h => h rfl)) _) h3
      have HZ := Lib.hid hz
      have HROW := Lib.hid hrow
      have HAG := Lib.hid hag
      generalize V.burn = U at *
      clear hz hrow hag h3 hV
      go_enter Try.func71, Try.ntmps71
      go_wp2_with (first | (refine wpList_val rfl (ex_alloc rfl (.agg PV.zero.cells) zero_pair) ?_; rw [show (Value.agg PV.zero.cells).cells = PV.zero.cells from rfl, hW2, hs1]) | (refine wpList_val rfl (ex_load (ty := 40) rfl isAgg_pair w.heap.size 0 rfl U.cells rfl (U.load H3.out)) ?_) | (refine wpList_unit rfl (ex_storeAll (ty := 40) rfl isAgg_pair.2 (w.heap.size + 1) rfl U.cells PV.zero.cells rfl rfl HZ.out rfl U.one) ?_))
      refine bodyPost_ret (results_a1t1' rfl _ (b := w.heap.size + 1) rfl isAgg_pair (vs := U.cells) rfl (U.load HROW.out) rfl) rfl ⟨?_, HAG.out⟩
      rw [HV.out.2]; rfl
    · by_cases h1 : 0 < f
      · obtain ⟨W3, hW3⟩ : ∃ W3, W2.setCell ⟨w.heap.size, 8, none⟩ (.int .i64 (f - 1)) = W3 := ⟨_, rfl⟩
        have hwk : IntKind.i64.wrap (f - 1) = f - 1 := by rw [IntKind.wrap_i64]; unfold in64 at hf; omega
        have HV : RowKit.Hid (V.burn.cells = (V.cells.setIfInBounds 8 (.int .i64 (f - 1))) ∧ (burnF V.fuse V.down).2.2 = true) := by
          rw [hV]; refine Lib.hid ?_; simp [PV.burn, burnF, h0, h1, PV.cells]
        have h3 : W3.heap[w.heap.size]? = some (.cells V.burn.cells 40 (0, 0)) := by
          rw [HV.out.1, ← hW3]; exact heap_setCell_same _ _ _ _ _ _ HR0.out
        have H3 := Lib.hid h3
        obtain ⟨hz, hrow, hag⟩ := HF.out V.burn W3 (by rw [← hW3]; exact (Agrees.refl _ _).setCell (.inl (fun h => h rfl)) _) h3
        have HZ := Lib.hid hz
        have HROW := Lib.hid hrow
        have HAG := Lib.hid hag
        generalize V.burn = U at *
        clear hz hrow hag h3 hV
        go_enter Try.func71, Try.ntmps71
        go_wp2_with (first | (refine wpList_val rfl (ex_alloc rfl (.agg PV.zero.cells) zero_pair) ?_; rw [show (Value.agg PV.zero.cells).cells = PV.zero.cells from rfl, hW2, hs1]) | (refine wpList_val rfl (ex_load (ty := 40) rfl isAgg_pair w.heap.size 0 rfl U.cells rfl (U.load H3.out)) ?_) | (refine wpList_unit rfl (ex_storeAll (ty := 40) rfl isAgg_pair.2 (w.heap.size + 1) rfl U.cells PV.zero.cells rfl rfl HZ.out rfl U.one) ?_))
        refine bodyPost_ret (results_a1t1' rfl _ (b := w.heap.size + 1) rfl isAgg_pair (vs := U.cells) rfl (U.load HROW.out) rfl) rfl ⟨?_, HAG.out⟩
        rw [HV.out.2]; rfl
      · have HV : RowKit.Hid (V.burn.cells = V.cells ∧ (burnF V.fuse V.down).2.2 = true) := by
          rw [hV]; refine Lib.hid ?_; simp [PV.burn, burnF, h0, h1, PV.cells]
        have h3 : W2.heap[w.heap.size]? = some (.cells V.burn.cells 40 (0, 0)) := by
          rw [HV.out.1]; exact HR0.out
        have H3 := Lib.hid h3
        obtain ⟨hz, hrow, hag⟩ := HF.out V.burn W2 (Agrees.refl _ _) h3
        have HZ := Lib.hid hz
        have HROW := Lib.hid hrow
        have HAG := Lib.hid hag
        generalize V.burn = U at *
        clear hz hrow hag h3 hV
        go_enter Try.func71, Try.ntmps71
        go_wp2_with (first | (refine wpList_val rfl (ex_alloc rfl (.agg PV.zero.cells) zero_pair) ?_; rw [show (Value.agg PV.zero.cells).cells = PV.zero.cells from rfl, hW2, hs1]) | (refine wpList_val rfl (ex_load (ty := 40) rfl isAgg_pair w.heap.size 0 rfl U.cells rfl (U.load H3.out)) ?_) | (refine wpList_unit rfl (ex_storeAll (ty := 40) rfl isAgg_pair.2 (w.heap.size + 1) rfl U.cells PV.zero.cells rfl rfl HZ.out rfl U.one) ?_))
        refine bodyPost_ret (results_a1t1' rfl _ (b := w.heap.size + 1) rfl isAgg_pair (vs := U.cells) rfl (U.load HROW.out) rfl) rfl ⟨?_, HAG.out⟩
        rw [HV.out.2]; rfl
  · have HV : RowKit.Hid (V.burn.cells = V.cells ∧ (burnF V.fuse V.down).2.2 = false) := by
      rw [hV]; refine Lib.hid ?_; simp [PV.burn, burnF, PV.cells]
    have h3 : W2.heap[w.heap.size]? = some (.cells V.burn.cells 40 (0, 0)) := by
      rw [HV.out.1]; exact HR0.out
    have H3 := Lib.hid h3
    obtain ⟨hz, hrow, hag⟩ := HF.out V.burn W2 (Agrees.refl _ _) h3
    have HZ := Lib.hid hz
    have HROW := Lib.hid hrow
    have HAG := Lib.hid hag
    generalize V.burn = U at *
    clear hz hrow hag h3 hV
    go_enter Try.func71, Try.ntmps71
    go_wp2_with (first | (refine wpList_val rfl (ex_alloc rfl (.agg PV.zero.cells) zero_pair) ?_; rw [show (Value.agg PV.zero.cells).cells = PV.zero.cells from rfl, hW2, hs1]) | (refine wpList_val rfl (ex_load (ty := 40) rfl isAgg_pair w.heap.size 0 rfl U.cells rfl (U.load H3.out)) ?_) | (refine wpList_unit rfl (ex_storeAll (ty := 40) rfl isAgg_pair.2 (w.heap.size + 1) rfl U.cells PV.zero.cells rfl rfl HZ.out rfl U.one) ?_))
    refine bodyPost_ret (results_a1t1' rfl _ (b := w.heap.size + 1) rfl isAgg_pair (vs := U.cells) rfl (U.load HROW.out) rfl) rfl ⟨?_, HAG.out⟩
    rw [HV.out.2]; rfl
end Suture
/-
  WHICH DISKS ARE ATTACHED: mirror.Live.
  Conditions: none.
-/
namespace Suture
open Go Go.RowKit Go.Proofs
attribute [local go_sem] Oper.semAt_some

def liveTo (o0 o1 : Bool) : Nat → Int
  | 0 => 0
  | 1 => if o0 then 0 else 1
  | _ => (if o0 then 0 else 1) + (if o1 then 0 else 2)

def PV.disksCells (v : PV) : Array Value := #[.slice v.d0.pa v.d0.pn v.d0.pc, .slice v.d0.ca v.d0.cn v.d0.cc, .slice v.d0.ba v.d0.bn v.d0.bc, .bool v.d0.off,
  .slice v.d1.pa v.d1.pn v.d1.pc, .slice v.d1.ca v.d1.cn v.d1.cc, .slice v.d1.ba v.d1.bn v.d1.bc, .bool v.d1.off]
theorem ex_indexDisk {o : Oper} {a : Act} {w : World} {x y : Operand} (cs ds : Array Value) (i : Nat) (hi : i < 2) (ho : o.op = .index 38 x y) (hx : a.eval x = .agg cs) (hy : a.eval y = .int .i64 i) (hd : cs.extract (i * 4) (i * 4 + 4) = ds) :
    (execOp a.eval o).run Try.prog w = .ok (.value (.agg ds)) w := by
  have hq : (Try.prog.info? 37).map (·.size) = some 4 := by kernel_rfl
  cases h : Try.prog.info? 37 with
  | none => simp [h] at hq
  | some inf =>
    have hsz : inf.size = 4 := by simpa [h] using hq
    have hagg : (isAgg 37).run Try.prog w = .ok true w := by
      unfold isAgg
      rw [Sem.run_bind, run_underlying Try.underlying37 w]
      rfl
    have hpart : (part 37 cs (i * 4)).run Try.prog w = .ok (.agg ds) w := by
      simp [part, Sem.run_bind, hagg, Go.sizeOf, typeInfo, h, hsz, hd]
    unfold execOp
    simp [ho, hx, hy, Instr.index, asIntOf, run_underlying Try.underlying38, Sem.run_bind, hi, Go.sizeOf, typeInfo, h, hsz, hpart]
def PV.disk (v : PV) (i : Nat) : DV := if i = 0 then v.d0 else v.d1

set_option maxHeartbeats 2000000 in
set_option maxRecDepth 100000 in
theorem live_calls (v : PV) (w : World) :
    Calls Try.prog 62 #[.agg v.cells] w fun e w' => e = .returned (.int .u8 (liveTo v.d0.off v.d1.off 2)) ∧ Agrees All w w' := by
  obtain ⟨W1, hW1⟩ : ∃ W1, w.alloc (.cells v.cells 40) = W1 := ⟨_, rfl⟩
  have hA1 : Agrees All w W1 := by rw [← hW1]; exact (Agrees.refl _ w).alloc _
  have hr1 : W1.heap[w.heap.size]? = some (.cells v.cells 40 (0, 0)) := by rw [← hW1]; exact World.alloc_heap_new w _
  have HA1 := Lib.hid hA1
  have HR1 := Lib.hid hr1
  have HD := Lib.hid (show ∀ j, j < 8 → W1.cell? ⟨w.heap.size, 0 + j, none⟩ = v.disksCells[j]? from fun j hj => by
    rw [cell_of_row _ _ _ _ _ _ hr1]
    have : j = 0 ∨ j = 1 ∨ j = 2 ∨ j = 3 ∨ j = 4 ∨ j = 5 ∨ j = 6 ∨ j = 7 := by omega
    rcases this with rfl | rfl | rfl | rfl | rfl | rfl | rfl | rfl <;> rfl)
  clear hA1 hr1
  go_enter Try.func62, Try.ntmps62
  go_wp2_with (refine wpList_val rfl (ex_load (ty := 38) rfl isAgg_disks w.heap.size 0 rfl v.disksCells rfl HD.out) ?_)
  obtain ⟨⟨pa, pn, pc, ca, cn, cc, ba, bn, bc, o0⟩, ⟨pa', pn', pc', ca', cn', cc', ba', bn', bc', o1⟩, f, dn⟩ := v
  have HX : RowKit.Hid (Agrees All W1 W1) := Agrees.refl _ _
  clear hW1 HD HR1
  simp only [PV.disksCells]
  go_loopw [2, 7] (fun nn ii wr => ∃ i : Nat, i ≤ 2 ∧ ii = .int .i64 i ∧ nn = .int .u8 (liveTo o0 o1 i) ∧ RowKit.Hid (Agrees All W1 wr)) (fun _ ii _ => 2 - (intOf ii).toNat)
  case atStart => exact ⟨0, by omega, rfl, rfl, HX⟩
  case round =>
    obtain ⟨i, hi, rfl, rfl, HW⟩ := hrel
    clear HX
    have hcase : i = 0 ∨ i = 1 ∨ i = 2 := by omega
    have hrow : ∀ V : DV, (wr.alloc (.cells DV.zero.cells 37)).heap[wr.heap.size]? = some (.cells DV.zero.cells 37 (0, 0)) := fun _ => World.alloc_heap_new wr _
    rcases hcase with rfl | rfl | rfl
    · have HROW := Lib.hid (World.alloc_heap_new wr (.cells DV.zero.cells 37))
      obtain ⟨W5, hW5⟩ : ∃ W5, (wr.alloc (.cells DV.zero.cells 37)).setRow wr.heap.size (DV.mk pa pn pc ca cn cc ba bn bc o0).cells = W5 := ⟨_, rfl⟩
      have h5 : W5.heap[wr.heap.size]? = some (.cells (DV.mk pa pn pc ca cn cc ba bn bc o0).cells 37 (0, 0)) := by rw [← hW5]; exact setRow_heap _ _ _ _ _ _ HROW.out
      have c3 : W5.cell? ⟨wr.heap.size, 3, none⟩ = some (.bool o0) := by rw [cell_of_row _ _ _ _ _ _ h5]; rfl
      have HA5 := Lib.hid (show Agrees All W1 W5 by rw [← hW5]; exact (HW.out.trans ((Agrees.refl _ wr).alloc _)).setRow (.inr (by have := HW.out.size; omega)) _)
      clear hrow h5
      cases o0 <;> cases o1
      all_goals
        go_wp2_with (first | (refine wpList_val rfl (ex_alloc rfl (.agg DV.zero.cells) zero_disk) ?_; rw [show (Value.agg DV.zero.cells).cells = DV.zero.cells from rfl]) | (refine wpList_unit rfl (ex_storeAll (ty := 37) rfl isAgg_disk.2 wr.heap.size rfl (DV.mk pa pn pc ca cn cc ba bn bc _).cells DV.zero.cells rfl rfl HROW.out rfl (DV.one _)) ?_; rw [hW5]) | (refine wpList_val rfl (ex_indexDisk _ (DV.mk pa pn pc ca cn cc ba bn bc _).cells 0 (by decide) rfl rfl rfl rfl) ?_))
        exact ⟨⟨1, by omega, by simp, by first | (simp [liveTo]; done) | (simp [liveTo]; kernel_rfl), HA5⟩, by simp [intOf]⟩
    · have HROW := Lib.hid (World.alloc_heap_new wr (.cells DV.zero.cells 37))
      obtain ⟨W5, hW5⟩ : ∃ W5, (wr.alloc (.cells DV.zero.cells 37)).setRow wr.heap.size (DV.mk pa' pn' pc' ca' cn' cc' ba' bn' bc' o1).cells = W5 := ⟨_, rfl⟩
      have h5 : W5.heap[wr.heap.size]? = some (.cells (DV.mk pa' pn' pc' ca' cn' cc' ba' bn' bc' o1).cells 37 (0, 0)) := by rw [← hW5]; exact setRow_heap _ _ _ _ _ _ HROW.out
      have c3 : W5.cell? ⟨wr.heap.size, 3, none⟩ = some (.bool o1) := by rw [cell_of_row _ _ _ _ _ _ h5]; rfl
      have HA5 := Lib.hid (show Agrees All W1 W5 by rw [← hW5]; exact (HW.out.trans ((Agrees.refl _ wr).alloc _)).setRow (.inr (by have := HW.out.size; omega)) _)
      clear hrow h5
      cases o0 <;> cases o1
      all_goals
        go_wp2_with (first | (refine wpList_val rfl (ex_alloc rfl (.agg DV.zero.cells) zero_disk) ?_; rw [show (Value.agg DV.zero.cells).cells = DV.zero.cells from rfl]) | (refine wpList_unit rfl (ex_storeAll (ty := 37) rfl isAgg_disk.2 wr.heap.size rfl (DV.mk pa' pn' pc' ca' cn' cc' ba' bn' bc' _).cells DV.zero.cells rfl rfl HROW.out rfl (DV.one _)) ?_; rw [hW5]) | (refine wpList_val rfl (ex_indexDisk _ (DV.mk pa' pn' pc' ca' cn' cc' ba' bn' bc' _).cells 1 (by decide) rfl rfl rfl rfl) ?_))
        exact ⟨⟨2, by omega, by simp, by first | (simp [liveTo]; done) | (simp [liveTo]; kernel_rfl), HA5⟩, by simp [intOf]⟩
    · go_wp2_with fail
      go_ret
      exact ⟨rfl, HA1.out.trans HW.out⟩
end Suture
/-
  A PAGE WRITTEN TO A PAIR: mirror.does, mirror.Put.
  Conditions: none beyond the pair's own reading; its lists are not longer than 9000.
-/
namespace Suture
open Go Go.RowKit Go.Proofs
attribute [local go_sem] Oper.semAt_some

def Pair.disk (P : Pair) (i : Nat) : Disk := if i = 0 then P.d0 else P.d1
def Pair.set (P : Pair) (i : Nat) (d : Disk) : Pair := if i = 0 then { P with d0 := d } else { P with d1 := d }
def PV.set (v : PV) (i : Nat) (d : DV) : PV := if i = 0 then { v with d0 := d } else { v with d1 := d }
/-- the error of a write to a pair; what it leaves -/
def Pair.putE (P : Pair) (i : Nat) (at' : Int) : Int := if P.burns then (P.disk i).writeE at' else 100
def Pair.put (P : Pair) (i : Nat) (at' : Int) (p : List (BitVec 8)) : Pair := if P.putE i at' = 0 then P.burn.set i ((P.disk i).put at' p) else P.burn
structure PV.small (v : PV) : Prop where
  s0 : v.d0.small
  s1 : v.d1.small
theorem PV.small.disk {v : PV} (h : v.small) (i : Nat) : (v.disk i).small := by unfold PV.disk; split; exact h.s0; exact h.s1
theorem PairAt.disk {R : Nat → Prop} {w : World} {v : PV} {P : Pair} (h : PairAt R w v P) (i : Nat) : DiskAt R w (v.disk i) (P.disk i) := by
  unfold PV.disk Pair.disk; split; exact h.d0; exact h.d1
theorem burnF_in64 {f : Int} (h : in64 f) (dn : Bool) : in64 (burnF f dn).1 := by
  unfold burnF
  unfold in64 at h
  split
  · exact h
  · split
    · exact ⟨by decide, by decide⟩
    · split
      · exact ⟨by show _ ≤ f - 1; omega, by show f - 1 ≤ _; omega⟩
      · exact h
theorem PairAt.burn {R : Nat → Prop} {w : World} {v : PV} {P : Pair} (h : PairAt R w v P) : PairAt R w v.burn P.burn :=
  ⟨h.d0, h.d1, by simp [Pair.burn, PV.burn, h.fuse, h.down], by simp [Pair.burn, PV.burn, h.fuse, h.down], burnF_in64 h.in64 _⟩
theorem PairAt.set {R : Nat → Prop} {w : World} {v : PV} {P : Pair} (h : PairAt R w v P) (i : Nat) {d : Disk} {dv : DV} (hd : DiskAt R w dv d) : PairAt R w (v.set i dv) (P.set i d) := by
  unfold PV.set Pair.set; split
  · exact ⟨hd, h.d1, h.fuse, h.down, h.in64⟩
  · exact ⟨h.d0, hd, h.fuse, h.down, h.in64⟩

theorem oneInt : IsOne Try.prog 3 := ⟨⟨_, Try.underlying3, rfl⟩, by kernel_rfl⟩

set_option maxHeartbeats 1000000 in
theorem put1_calls (v : DV) (d : Disk) (at' : Int) (p : List (BitVec 8)) (hp : p.length = 256) (ha : in64 at') (A Pg : Nat) (w : World) (hv : DiskAt All w v d) (hs : v.small) (hA : w.heap[A]? = some (.cells #[.int .i64 at'] 3 (0, 0))) (hP : w.heap[Pg]? = some (.cells (pageCells p) 32 (0, 0))) :
    Calls Try.prog 64 #[.agg v.cells, .pointer (some ⟨A, 0, none⟩), .pointer (some ⟨Pg, 0, none⟩)] w fun e w' => ∃ v' : DV, e = .returned (.tuple #[.agg v'.cells, .int .i64 ((d.writeE at'))]) ∧ RowKit.Hid (DiskOwn w.heap.size w' v' (d.write at' p) ∧ Agrees All w w') := by
  obtain ⟨W1, hW1⟩ : ∃ W1, w.alloc (.cells v.cells 37) = W1 := ⟨_, rfl⟩
  obtain ⟨W2, hW2⟩ : ∃ W2, W1.alloc (.cells DV.zero.cells 37) = W2 := ⟨_, rfl⟩
  have hs1 : W1.heap.size = w.heap.size + 1 := by rw [← hW1]; simp
  have hA2 : Agrees All w W2 := by rw [← hW2, ← hW1]; exact ((Agrees.refl _ w).alloc _).alloc _
  have hr0 : W2.heap[w.heap.size]? = some (.cells v.cells 37 (0, 0)) := by
    rw [← hW2, heap_alloc_old _ _ (by omega), ← hW1]; exact World.alloc_heap_new w _
  have hr1 : W2.heap[w.heap.size + 1]? = some (.cells DV.zero.cells 37 (0, 0)) := by
    rw [← hW2, ← hs1]; exact World.alloc_heap_new W1 _
  have hA' := (hA2.block A (Array.getElem?_eq_some_iff.1 hA).1 trivial).trans hA
  have hP' := (hA2.block Pg (Array.getElem?_eq_some_iff.1 hP).1 trivial).trans hP
  have ca : W2.cell? ⟨A, 0, none⟩ = some (.int .i64 at') := by rw [cell_of_row _ _ _ _ _ _ hA']; rfl
  have HPC := Lib.hid (show ∀ j, j < 256 → W2.cell? ⟨Pg, 0 + j, none⟩ = (pageCells p)[j]? from fun j _ => by rw [Nat.zero_add]; exact cell_of_row _ _ _ _ _ _ hP')
  have HPS := Lib.hid (show (pageCells p).size = 256 by rw [pageCells_size, hp])
  have HW := Lib.hid (vwrite_calls v d at' p hp ha W2 (hv.agrees hA2 fun _ h => h) hs)
  have HR0 := Lib.hid hr0
  have HR1 := Lib.hid hr1
  have HB := Lib.hid hv.bound
  have HA2 := Lib.hid hA2
  have hsz2 : W2.heap.size = w.heap.size + 1 + 1 := by rw [← hW2]; simp [hs1]
  clear hr0 hr1 hA' hP' hA2 hv hA hP
  go_enter Try.func64, Try.ntmps64
  go_wp2_with (first | (refine wpList_val rfl (ex_alloc rfl (.agg DV.zero.cells) zero_disk) ?_; rw [show (Value.agg DV.zero.cells).cells = DV.zero.cells from rfl, hW2, hs1]) | (refine wpList_val rfl (ex_load (ty := 37) rfl isAgg_disk w.heap.size 0 rfl v.cells rfl (v.load HR0.out)) ?_) | (refine wpList_val rfl (ex_load (ty := 32) rfl isAgg_page Pg 0 rfl (pageCells p) HPS.out HPC.out) ?_))
  refine HW.out.mono ?_
  rintro e W3 ⟨v', rfl, hh⟩
  have hag := hh.out.2
  have HZ := Lib.hid ((hag.block _ (Array.getElem?_eq_some_iff.1 HR1.out).1 trivial).trans HR1.out)
  have HROW := Lib.hid (setRow_heap _ _ _ v'.cells _ _ HZ.out)
  have HAF := Lib.hid ((HA2.out.trans hag).setRow (p := w.heap.size + 1) (.inr (by omega)) v'.cells)
  clear hag
  go_wp2_with (refine wpList_unit rfl (ex_storeAll (ty := 37) rfl isAgg_disk.2 (w.heap.size + 1) rfl v'.cells DV.zero.cells rfl rfl HZ.out rfl (DV.one _)) ?_)
  refine bodyPost_ret (results_a1t1' rfl _ (b := w.heap.size + 1) rfl isAgg_disk (vs := v'.cells) rfl (DV.load _ HROW.out) rfl) rfl ⟨v', rfl, Lib.hid ⟨?_, HAF.out⟩⟩
  exact (hh.out.1.agrees ((Agrees.refl (fun b => b ≠ w.heap.size + 1) W3).setRow (.inl (fun h => h rfl)) v'.cells) (fun b hb e => by omega)).base (by omega)

set_option maxHeartbeats 2000000 in
set_option maxRecDepth 100000 in
theorem does0_calls (R0 : Nat → Prop) (v : PV) (P : Pair) (at' : Int) (p : List (BitVec 8)) (hp : p.length = 256) (ha : in64 at') (A Pg : Nat) (w : World) (hv : PairAt R0 w v P) (hs : v.small) (hA : w.heap[A]? = some (.cells #[.int .i64 at'] 3 (0, 0))) (hP : w.heap[Pg]? = some (.cells (pageCells p) 32 (0, 0))) :
    Calls Try.prog 63 #[.agg v.cells, .int .i64 0, .func (.func 64) #[] #[.pointer (some ⟨A, 0, none⟩), .pointer (some ⟨Pg, 0, none⟩)]] w fun e w' => ∃ v' : PV, e = .returned (.tuple #[.agg v'.cells, .int .i64 (P.putE 0 at')]) ∧ RowKit.Hid (PairAt (fun b => R0 b ∨ w.heap.size + 1 + 1 ≤ b) w' v' (P.put 0 at' p) ∧ Agrees All w w') := by
  obtain ⟨W1, hW1⟩ : ∃ W1, w.alloc (.cells v.cells 40) = W1 := ⟨_, rfl⟩
  obtain ⟨W2, hW2⟩ : ∃ W2, W1.alloc (.cells PV.zero.cells 40) = W2 := ⟨_, rfl⟩
  have hs1 : W1.heap.size = w.heap.size + 1 := by rw [← hW1]; simp
  have hs2 : W2.heap.size = w.heap.size + 1 + 1 := by rw [← hW2]; simp [hs1]
  have hA2 : Agrees All w W2 := by rw [← hW2, ← hW1]; exact ((Agrees.refl _ w).alloc _).alloc _
  have hr0 : W2.heap[w.heap.size]? = some (.cells v.cells 40 (0, 0)) := by
    rw [← hW2, heap_alloc_old _ _ (by omega), ← hW1]; exact World.alloc_heap_new w _
  have hr1 : W2.heap[w.heap.size + 1]? = some (.cells PV.zero.cells 40 (0, 0)) := by
    rw [← hW2, ← hs1]; exact World.alloc_heap_new W1 _
  have HB := Lib.hid (burn_calls v hv.in64 W2)
  have HR0 := Lib.hid hr0
  have HR1 := Lib.hid hr1
  have HA2 := Lib.hid hA2
  have HV := Lib.hid hv
  have HVA := Lib.hid (hv.mono (S := All) fun _ _ => trivial)
  have HAA := Lib.hid hA
  have HPP := Lib.hid hP
  have halt := (Array.getElem?_eq_some_iff.1 hA).1
  have hplt := (Array.getElem?_eq_some_iff.1 hP).1
  clear hr0 hr1 hA2 hv hA hP
  go_enter Try.func63, Try.ntmps63
  go_wp2_with (first | (refine wpList_val rfl (ex_alloc rfl (.agg PV.zero.cells) zero_pair) ?_; rw [show (Value.agg PV.zero.cells).cells = PV.zero.cells from rfl, hW2, hs1]) | (refine wpList_val rfl (ex_load (ty := 40) rfl isAgg_pair w.heap.size 0 rfl v.cells rfl (v.load HR0.out)) ?_))
  refine HB.out.mono ?_
  rintro e W3 ⟨rfl, hag⟩
  have hq0 := (hag.block _ (Array.getElem?_eq_some_iff.1 HR0.out).1 trivial).trans HR0.out
  have hq1 := (hag.block _ (Array.getElem?_eq_some_iff.1 HR1.out).1 trivial).trans HR1.out
  obtain ⟨W4, hW4⟩ : ∃ W4, W3.setRow w.heap.size v.burn.cells = W4 := ⟨_, rfl⟩
  have hA4 : Agrees (fun b => b ≠ w.heap.size) W3 W4 := by rw [← hW4]; exact (Agrees.refl _ _).setRow (.inl (fun h => h rfl)) _
  have HS0 := Lib.hid (show W4.heap[w.heap.size]? = some (.cells v.burn.cells 40 (0, 0)) by rw [← hW4]; exact setRow_heap _ _ _ _ _ _ hq0)
  have HS1 := Lib.hid ((hA4.block _ (Array.getElem?_eq_some_iff.1 hq1).1 (by omega)).trans hq1)
  have HQ0 := Lib.hid hq0
  have HA4 := Lib.hid (show Agrees All w W4 by rw [← hW4]; exact (HA2.out.trans hag).setRow (.inr (Nat.le_refl _)) _)
  have hsz4 : w.heap.size + 1 + 1 ≤ W4.heap.size := by have := hag.size; have := hA4.size; omega
  have HBP : RowKit.Hid ((burnF v.fuse v.down).2.2 = P.burns) := by
    refine Lib.hid ?_
    unfold Pair.burns; rw [HVA.out.fuse, HVA.out.down]
  clear hag hq0 hq1 hA4 HB HR0 HR1 HA2
  generalize (burnF v.fuse v.down).2.2 = ok at *
  cases ok
  · have HPE : RowKit.Hid (P.putE 0 at' = 100 ∧ P.put 0 at' p = P.burn) := by
      have e : P.putE 0 at' = 100 := by unfold Pair.putE; rw [← HBP.out]; rfl
      exact Lib.hid ⟨e, by unfold Pair.put; rw [e]; rfl⟩
    have HROW := Lib.hid (setRow_heap _ _ _ v.burn.cells _ _ HS1.out)
    have HAF := Lib.hid (HA4.out.setRow (p := w.heap.size + 1) (.inr (by omega)) v.burn.cells)
    go_wp2_with (first | (refine wpList_unit rfl (ex_storeAll (ty := 40) rfl isAgg_pair.2 w.heap.size rfl v.burn.cells v.cells rfl rfl HQ0.out rfl (PV.one _)) ?_; rw [hW4]) | (refine wpList_val rfl (ex_load (ty := 40) rfl isAgg_pair w.heap.size 0 rfl v.burn.cells rfl (PV.load _ HS0.out)) ?_) | (refine wpList_unit rfl (ex_storeAll (ty := 40) rfl isAgg_pair.2 (w.heap.size + 1) rfl v.burn.cells PV.zero.cells rfl rfl HS1.out rfl (PV.one _)) ?_))
    refine bodyPost_ret (results_a1t1' rfl _ (b := w.heap.size + 1) rfl isAgg_pair (vs := v.burn.cells) rfl (PV.load _ HROW.out) rfl) rfl ⟨v.burn, by rw [HPE.out.1]; rfl, Lib.hid ⟨?_, HAF.out⟩⟩
    rw [HPE.out.2]
    exact ((HV.out.agrees HAF.out fun _ _ => trivial).burn).mono fun b hb => .inl hb
  · have HD := Lib.hid (show DiskAt All W4 v.d0 P.d0 from HVA.out.d0.agrees HA4.out fun _ h => h)
    have hA4' := (HA4.out.block _ halt trivial).trans HAA.out
    have hP4' := (HA4.out.block _ hplt trivial).trans HPP.out
    have HPUT := Lib.hid (put1_calls v.d0 P.d0 at' p hp ha A Pg W4 HD.out hs.s0 hA4' hP4')
    have HDL := Lib.hid (show ∀ j, j < 4 → W4.cell? ⟨w.heap.size, 0 + j, none⟩ = v.d0.cells[j]? from fun j hj => by
      rw [cell_of_row _ _ _ _ _ _ HS0.out]
      have : j = 0 ∨ j = 1 ∨ j = 2 ∨ j = 3 := by omega
      rcases this with rfl | rfl | rfl | rfl <;> rfl)
    clear hA4' hP4'
    go_wp2_with (first | (refine wpList_unit rfl (ex_storeAll (ty := 40) rfl isAgg_pair.2 w.heap.size rfl v.burn.cells v.cells rfl rfl HQ0.out rfl (PV.one _)) ?_; rw [hW4]) | (refine wpList_val rfl (ex_load (ty := 37) rfl isAgg_disk w.heap.size 0 rfl v.d0.cells rfl HDL.out) ?_))
    refine HPUT.out.mono ?_
    rintro e W5 ⟨dv', rfl, hh⟩
    obtain ⟨hdk, hag5⟩ := hh.out
    have HT0 := Lib.hid ((hag5.block _ (Array.getElem?_eq_some_iff.1 HS0.out).1 trivial).trans HS0.out)
    have HT1 := Lib.hid ((hag5.block _ (Array.getElem?_eq_some_iff.1 HS1.out).1 trivial).trans HS1.out)
    have HDK := Lib.hid hdk
    have HA5 := Lib.hid (HA4.out.trans hag5)
    obtain ⟨q, hq⟩ : ∃ q, W5.heap.size = q := ⟨_, rfl⟩
    have hrowz := World.alloc_heap_new W5 (.cells DV.zero.cells 37)
    rw [hq] at hrowz
    have HROWZ := Lib.hid hrowz
    obtain ⟨W6, hW6⟩ : ∃ W6, (W5.alloc (.cells DV.zero.cells 37)).setRow q dv'.cells = W6 := ⟨_, rfl⟩
    have hqs : W4.heap.size ≤ q := by rw [← hq]; exact hag5.size
    have hA6 : Agrees All W5 W6 := by rw [← hW6]; exact ((Agrees.refl _ W5).alloc _).setRow (.inr (by omega)) _
    have HU := Lib.hid (show W6.heap[q]? = some (.cells dv'.cells 37 (0, 0)) by rw [← hW6]; exact setRow_heap _ _ _ _ _ _ hrowz)
    have HU0 := Lib.hid ((hA6.block _ (Array.getElem?_eq_some_iff.1 HT0.out).1 trivial).trans HT0.out)
    have HU1 := Lib.hid ((hA6.block _ (Array.getElem?_eq_some_iff.1 HT1.out).1 trivial).trans HT1.out)
    have HDK6 := Lib.hid (HDK.out.agrees hA6 fun _ _ => trivial)
    have HA6 := Lib.hid (HA5.out.trans hA6)
    have hsz6 := hA6.size
    have HWE : RowKit.Hid (P.putE 0 at' = P.d0.writeE at') := by
      refine Lib.hid ?_
      unfold Pair.putE; rw [← HBP.out]; rfl
    clear hh hdk hag5 hrowz hA6 HPUT HDL HD
    by_cases hE : P.d0.writeE at' = 0
    · obtain ⟨W7, hW7⟩ : ∃ W7, W6.setRow w.heap.size (v.burn.set 0 dv').cells = W7 := ⟨_, rfl⟩
      have hA7 : Agrees (fun b => b ≠ w.heap.size) W6 W7 := by rw [← hW7]; exact (Agrees.refl _ _).setRow (.inl (fun h => h rfl)) _
      have HX0 := Lib.hid (show W7.heap[w.heap.size]? = some (.cells (v.burn.set 0 dv').cells 40 (0, 0)) by rw [← hW7]; exact setRow_heap _ _ _ _ _ _ HU0.out)
      have HX1 := Lib.hid ((hA7.block _ (Array.getElem?_eq_some_iff.1 HU1.out).1 (by omega)).trans HU1.out)
      have HDK7 := Lib.hid (HDK6.out.agrees hA7 (fun b hb e => by omega))
      have HA7 := Lib.hid (show Agrees All w W7 by rw [← hW7]; exact HA6.out.setRow (.inr (Nat.le_refl _)) _)
      have hsz7 := hA7.size
      have HROW := Lib.hid (setRow_heap _ _ _ (v.burn.set 0 dv').cells _ _ HX1.out)
      have HAF := Lib.hid (HA7.out.setRow (p := w.heap.size + 1) (.inr (by omega)) (v.burn.set 0 dv').cells)
      have HPT : RowKit.Hid (P.put 0 at' p = P.burn.set 0 (P.d0.write at' p)) := by
        refine Lib.hid ?_
        unfold Pair.put Disk.write
        rw [HWE.out, if_pos hE, if_pos hE]; rfl
      have HCELL : RowKit.Hid ((v.burn.cells.toList.take 0 ++ dv'.cells.toList ++ v.burn.cells.toList.drop (0 + 4)).toArray = (v.burn.set 0 dv').cells) := Lib.hid rfl
      clear hA7
      rw [hE]
      go_wp2_with (first | (refine wpList_val rfl (ex_alloc rfl (.agg DV.zero.cells) zero_disk) ?_; rw [show (Value.agg DV.zero.cells).cells = DV.zero.cells from rfl, hq]) | (refine wpList_unit rfl (ex_storeAll (ty := 37) rfl isAgg_disk.2 q rfl dv'.cells DV.zero.cells rfl rfl HROWZ.out rfl (DV.one _)) ?_; rw [hW6]) | (refine wpList_val rfl (ex_load (ty := 37) rfl isAgg_disk q 0 rfl dv'.cells rfl (DV.load _ HU.out)) ?_) |
        (refine wpList_unit rfl (ex_store (ty := 37) rfl isAgg_disk.2 w.heap.size 0 rfl dv'.cells v.burn.cells rfl rfl HU0.out (show 0 + 4 ≤ 10 by decide) (DV.one _)) ?_; rw [HCELL.out, hW7]) | (refine wpList_val rfl (ex_load (ty := 40) rfl isAgg_pair w.heap.size 0 rfl (v.burn.set 0 dv').cells rfl (PV.load _ HX0.out)) ?_) | (refine wpList_unit rfl (ex_storeAll (ty := 40) rfl isAgg_pair.2 (w.heap.size + 1) rfl (v.burn.set 0 dv').cells PV.zero.cells rfl rfl HX1.out rfl (PV.one _)) ?_))
      refine bodyPost_ret (results_a1t1' rfl _ (b := w.heap.size + 1) rfl isAgg_pair (vs := (v.burn.set 0 dv').cells) rfl (PV.load _ HROW.out) rfl) rfl ⟨v.burn.set 0 dv', by rw [HWE.out, hE]; rfl, Lib.hid ⟨?_, HAF.out⟩⟩
      rw [HPT.out]
      have hfin : Agrees (fun b => b ≠ w.heap.size + 1) W7 (W7.setRow (w.heap.size + 1) (v.burn.set 0 dv').cells) := (Agrees.refl _ _).setRow (.inl (fun h => h rfl)) _
      exact PairAt.set (((HV.out.agrees HAF.out fun _ _ => trivial).burn).mono fun b hb => .inl hb) 0 ((HDK7.out.agrees hfin (fun b hb e => by omega)).at.mono fun b hb => .inr (by omega))
    · have HROW := Lib.hid (setRow_heap _ _ _ v.burn.cells _ _ HU1.out)
      have HAF := Lib.hid (HA6.out.setRow (p := w.heap.size + 1) (.inr (by omega)) v.burn.cells)
      have HPT : RowKit.Hid (P.put 0 at' p = P.burn) := by
        refine Lib.hid ?_
        unfold Pair.put
        rw [HWE.out, if_neg hE]
      have hEb : (P.d0.writeE at' == 0) = false := by simpa using hE
      go_wp2_with (first | (refine wpList_val rfl (ex_alloc rfl (.agg DV.zero.cells) zero_disk) ?_; rw [show (Value.agg DV.zero.cells).cells = DV.zero.cells from rfl, hq]) | (refine wpList_unit rfl (ex_storeAll (ty := 37) rfl isAgg_disk.2 q rfl dv'.cells DV.zero.cells rfl rfl HROWZ.out rfl (DV.one _)) ?_; rw [hW6]) | (refine wpList_val rfl (ex_load (ty := 40) rfl isAgg_pair w.heap.size 0 rfl v.burn.cells rfl (PV.load _ HU0.out)) ?_) | (refine wpList_unit rfl (ex_storeAll (ty := 40) rfl isAgg_pair.2 (w.heap.size + 1) rfl v.burn.cells PV.zero.cells rfl rfl HU1.out rfl (PV.one _)) ?_))
      refine bodyPost_ret (results_a1t1' rfl _ (b := w.heap.size + 1) rfl isAgg_pair (vs := v.burn.cells) rfl (PV.load _ HROW.out) rfl) rfl ⟨v.burn, by rw [HWE.out]; rfl, Lib.hid ⟨?_, HAF.out⟩⟩
      rw [HPT.out]
      exact ((HV.out.agrees HAF.out fun _ _ => trivial).burn).mono fun b hb => .inl hb

set_option maxHeartbeats 2000000 in
set_option maxRecDepth 100000 in
theorem does1_calls (R0 : Nat → Prop) (v : PV) (P : Pair) (at' : Int) (p : List (BitVec 8)) (hp : p.length = 256) (ha : in64 at') (A Pg : Nat) (w : World) (hv : PairAt R0 w v P) (hs : v.small) (hA : w.heap[A]? = some (.cells #[.int .i64 at'] 3 (0, 0))) (hP : w.heap[Pg]? = some (.cells (pageCells p) 32 (0, 0))) :
    Calls Try.prog 63 #[.agg v.cells, .int .i64 1, .func (.func 64) #[] #[.pointer (some ⟨A, 0, none⟩), .pointer (some ⟨Pg, 0, none⟩)]] w fun e w' => ∃ v' : PV, e = .returned (.tuple #[.agg v'.cells, .int .i64 (P.putE 1 at')]) ∧ RowKit.Hid (PairAt (fun b => R0 b ∨ w.heap.size + 1 + 1 ≤ b) w' v' (P.put 1 at' p) ∧ Agrees All w w') := by
  obtain ⟨W1, hW1⟩ : ∃ W1, w.alloc (.cells v.cells 40) = W1 := ⟨_, rfl⟩
  obtain ⟨W2, hW2⟩ : ∃ W2, W1.alloc (.cells PV.zero.cells 40) = W2 := ⟨_, rfl⟩
  have hs1 : W1.heap.size = w.heap.size + 1 := by rw [← hW1]; simp
  have hs2 : W2.heap.size = w.heap.size + 1 + 1 := by rw [← hW2]; simp [hs1]
  have hA2 : Agrees All w W2 := by rw [← hW2, ← hW1]; exact ((Agrees.refl _ w).alloc _).alloc _
  have hr0 : W2.heap[w.heap.size]? = some (.cells v.cells 40 (0, 0)) := by
    rw [← hW2, heap_alloc_old _ _ (by omega), ← hW1]; exact World.alloc_heap_new w _
  have hr1 : W2.heap[w.heap.size + 1]? = some (.cells PV.zero.cells 40 (0, 0)) := by
    rw [← hW2, ← hs1]; exact World.alloc_heap_new W1 _
  have HB := Lib.hid (burn_calls v hv.in64 W2)
  have HR0 := Lib.hid hr0
  have HR1 := Lib.hid hr1
  have HA2 := Lib.hid hA2
  have HV := Lib.hid hv
  have HVA := Lib.hid (hv.mono (S := All) fun _ _ => trivial)
  have HAA := Lib.hid hA
  have HPP := Lib.hid hP
  have halt := (Array.getElem?_eq_some_iff.1 hA).1
  have hplt := (Array.getElem?_eq_some_iff.1 hP).1
  clear hr0 hr1 hA2 hv hA hP
  go_enter Try.func63, Try.ntmps63
  go_wp2_with (first | (refine wpList_val rfl (ex_alloc rfl (.agg PV.zero.cells) zero_pair) ?_; rw [show (Value.agg PV.zero.cells).cells = PV.zero.cells from rfl, hW2, hs1]) | (refine wpList_val rfl (ex_load (ty := 40) rfl isAgg_pair w.heap.size 0 rfl v.cells rfl (v.load HR0.out)) ?_))
  refine HB.out.mono ?_
  rintro e W3 ⟨rfl, hag⟩
  have hq0 := (hag.block _ (Array.getElem?_eq_some_iff.1 HR0.out).1 trivial).trans HR0.out
  have hq1 := (hag.block _ (Array.getElem?_eq_some_iff.1 HR1.out).1 trivial).trans HR1.out
  obtain ⟨W4, hW4⟩ : ∃ W4, W3.setRow w.heap.size v.burn.cells = W4 := ⟨_, rfl⟩
  have hA4 : Agrees (fun b => b ≠ w.heap.size) W3 W4 := by rw [← hW4]; exact (Agrees.refl _ _).setRow (.inl (fun h => h rfl)) _
  have HS0 := Lib.hid (show W4.heap[w.heap.size]? = some (.cells v.burn.cells 40 (0, 0)) by rw [← hW4]; exact setRow_heap _ _ _ _ _ _ hq0)
  have HS1 := Lib.hid ((hA4.block _ (Array.getElem?_eq_some_iff.1 hq1).1 (by omega)).trans hq1)
  have HQ0 := Lib.hid hq0
  have HA4 := Lib.hid (show Agrees All w W4 by rw [← hW4]; exact (HA2.out.trans hag).setRow (.inr (Nat.le_refl _)) _)
  have hsz4 : w.heap.size + 1 + 1 ≤ W4.heap.size := by have := hag.size; have := hA4.size; omega
  have HBP : RowKit.Hid ((burnF v.fuse v.down).2.2 = P.burns) := by
    refine Lib.hid ?_
    unfold Pair.burns; rw [HVA.out.fuse, HVA.out.down]
  clear hag hq0 hq1 hA4 HB HR0 HR1 HA2
  generalize (burnF v.fuse v.down).2.2 = ok at *
  cases ok
  · have HPE : RowKit.Hid (P.putE 1 at' = 100 ∧ P.put 1 at' p = P.burn) := by
      have e : P.putE 1 at' = 100 := by unfold Pair.putE; rw [← HBP.out]; rfl
      exact Lib.hid ⟨e, by unfold Pair.put; rw [e]; rfl⟩
    have HROW := Lib.hid (setRow_heap _ _ _ v.burn.cells _ _ HS1.out)
    have HAF := Lib.hid (HA4.out.setRow (p := w.heap.size + 1) (.inr (by omega)) v.burn.cells)
    go_wp2_with (first | (refine wpList_unit rfl (ex_storeAll (ty := 40) rfl isAgg_pair.2 w.heap.size rfl v.burn.cells v.cells rfl rfl HQ0.out rfl (PV.one _)) ?_; rw [hW4]) | (refine wpList_val rfl (ex_load (ty := 40) rfl isAgg_pair w.heap.size 0 rfl v.burn.cells rfl (PV.load _ HS0.out)) ?_) | (refine wpList_unit rfl (ex_storeAll (ty := 40) rfl isAgg_pair.2 (w.heap.size + 1) rfl v.burn.cells PV.zero.cells rfl rfl HS1.out rfl (PV.one _)) ?_))
    refine bodyPost_ret (results_a1t1' rfl _ (b := w.heap.size + 1) rfl isAgg_pair (vs := v.burn.cells) rfl (PV.load _ HROW.out) rfl) rfl ⟨v.burn, by rw [HPE.out.1]; rfl, Lib.hid ⟨?_, HAF.out⟩⟩
    rw [HPE.out.2]
    exact ((HV.out.agrees HAF.out fun _ _ => trivial).burn).mono fun b hb => .inl hb
  · have HD := Lib.hid (show DiskAt All W4 v.d1 P.d1 from HVA.out.d1.agrees HA4.out fun _ h => h)
    have hA4' := (HA4.out.block _ halt trivial).trans HAA.out
    have hP4' := (HA4.out.block _ hplt trivial).trans HPP.out
    have HPUT := Lib.hid (put1_calls v.d1 P.d1 at' p hp ha A Pg W4 HD.out hs.s1 hA4' hP4')
    have HDL := Lib.hid (show ∀ j, j < 4 → W4.cell? ⟨w.heap.size, 4 + j, none⟩ = v.d1.cells[j]? from fun j hj => by
      rw [cell_of_row _ _ _ _ _ _ HS0.out]
      have : j = 0 ∨ j = 1 ∨ j = 2 ∨ j = 3 := by omega
      rcases this with rfl | rfl | rfl | rfl <;> rfl)
    clear hA4' hP4'
    go_wp2_with (first | (refine wpList_unit rfl (ex_storeAll (ty := 40) rfl isAgg_pair.2 w.heap.size rfl v.burn.cells v.cells rfl rfl HQ0.out rfl (PV.one _)) ?_; rw [hW4]) | (refine wpList_val rfl (ex_load (ty := 37) rfl isAgg_disk w.heap.size 4 rfl v.d1.cells rfl HDL.out) ?_))
    refine HPUT.out.mono ?_
    rintro e W5 ⟨dv', rfl, hh⟩
    obtain ⟨hdk, hag5⟩ := hh.out
    have HT0 := Lib.hid ((hag5.block _ (Array.getElem?_eq_some_iff.1 HS0.out).1 trivial).trans HS0.out)
    have HT1 := Lib.hid ((hag5.block _ (Array.getElem?_eq_some_iff.1 HS1.out).1 trivial).trans HS1.out)
    have HDK := Lib.hid hdk
    have HA5 := Lib.hid (HA4.out.trans hag5)
    obtain ⟨q, hq⟩ : ∃ q, W5.heap.size = q := ⟨_, rfl⟩
    have hrowz := World.alloc_heap_new W5 (.cells DV.zero.cells 37)
    rw [hq] at hrowz
    have HROWZ := Lib.hid hrowz
    obtain ⟨W6, hW6⟩ : ∃ W6, (W5.alloc (.cells DV.zero.cells 37)).setRow q dv'.cells = W6 := ⟨_, rfl⟩
    have hqs : W4.heap.size ≤ q := by rw [← hq]; exact hag5.size
    have hA6 : Agrees All W5 W6 := by rw [← hW6]; exact ((Agrees.refl _ W5).alloc _).setRow (.inr (by omega)) _
    have HU := Lib.hid (show W6.heap[q]? = some (.cells dv'.cells 37 (0, 0)) by rw [← hW6]; exact setRow_heap _ _ _ _ _ _ hrowz)
    have HU0 := Lib.hid ((hA6.block _ (Array.getElem?_eq_some_iff.1 HT0.out).1 trivial).trans HT0.out)
    have HU1 := Lib.hid ((hA6.block _ (Array.getElem?_eq_some_iff.1 HT1.out).1 trivial).trans HT1.out)
    have HDK6 := Lib.hid (HDK.out.agrees hA6 fun _ _ => trivial)
    have HA6 := Lib.hid (HA5.out.trans hA6)
    have hsz6 := hA6.size
    have HWE : RowKit.Hid (P.putE 1 at' = P.d1.writeE at') := by
      refine Lib.hid ?_
      unfold Pair.putE; rw [← HBP.out]; rfl
    clear hh hdk hag5 hrowz hA6 HPUT HDL HD
    by_cases hE : P.d1.writeE at' = 0
    · obtain ⟨W7, hW7⟩ : ∃ W7, W6.setRow w.heap.size (v.burn.set 1 dv').cells = W7 := ⟨_, rfl⟩
      have hA7 : Agrees (fun b => b ≠ w.heap.size) W6 W7 := by rw [← hW7]; exact (Agrees.refl _ _).setRow (.inl (fun h => h rfl)) _
      have HX0 := Lib.hid (show W7.heap[w.heap.size]? = some (.cells (v.burn.set 1 dv').cells 40 (0, 0)) by rw [← hW7]; exact setRow_heap _ _ _ _ _ _ HU0.out)
      have HX1 := Lib.hid ((hA7.block _ (Array.getElem?_eq_some_iff.1 HU1.out).1 (by omega)).trans HU1.out)
      have HDK7 := Lib.hid (HDK6.out.agrees hA7 (fun b hb e => by omega))
      have HA7 := Lib.hid (show Agrees All w W7 by rw [← hW7]; exact HA6.out.setRow (.inr (Nat.le_refl _)) _)
      have hsz7 := hA7.size
      have HROW := Lib.hid (setRow_heap _ _ _ (v.burn.set 1 dv').cells _ _ HX1.out)
      have HAF := Lib.hid (HA7.out.setRow (p := w.heap.size + 1) (.inr (by omega)) (v.burn.set 1 dv').cells)
      have HPT : RowKit.Hid (P.put 1 at' p = P.burn.set 1 (P.d1.write at' p)) := by
        refine Lib.hid ?_
        unfold Pair.put Disk.write
        rw [HWE.out, if_pos hE, if_pos hE]; rfl
      have HCELL : RowKit.Hid ((v.burn.cells.toList.take 4 ++ dv'.cells.toList ++ v.burn.cells.toList.drop (4 + 4)).toArray = (v.burn.set 1 dv').cells) := Lib.hid rfl
      clear hA7
      rw [hE]
      go_wp2_with (first | (refine wpList_val rfl (ex_alloc rfl (.agg DV.zero.cells) zero_disk) ?_; rw [show (Value.agg DV.zero.cells).cells = DV.zero.cells from rfl, hq]) | (refine wpList_unit rfl (ex_storeAll (ty := 37) rfl isAgg_disk.2 q rfl dv'.cells DV.zero.cells rfl rfl HROWZ.out rfl (DV.one _)) ?_; rw [hW6]) | (refine wpList_val rfl (ex_load (ty := 37) rfl isAgg_disk q 0 rfl dv'.cells rfl (DV.load _ HU.out)) ?_) |
        (refine wpList_unit rfl (ex_store (ty := 37) rfl isAgg_disk.2 w.heap.size 4 rfl dv'.cells v.burn.cells rfl rfl HU0.out (show 4 + 4 ≤ 10 by decide) (DV.one _)) ?_; rw [HCELL.out, hW7]) | (refine wpList_val rfl (ex_load (ty := 40) rfl isAgg_pair w.heap.size 0 rfl (v.burn.set 1 dv').cells rfl (PV.load _ HX0.out)) ?_) | (refine wpList_unit rfl (ex_storeAll (ty := 40) rfl isAgg_pair.2 (w.heap.size + 1) rfl (v.burn.set 1 dv').cells PV.zero.cells rfl rfl HX1.out rfl (PV.one _)) ?_))
      refine bodyPost_ret (results_a1t1' rfl _ (b := w.heap.size + 1) rfl isAgg_pair (vs := (v.burn.set 1 dv').cells) rfl (PV.load _ HROW.out) rfl) rfl ⟨v.burn.set 1 dv', by rw [HWE.out, hE]; rfl, Lib.hid ⟨?_, HAF.out⟩⟩
      rw [HPT.out]
      have hfin : Agrees (fun b => b ≠ w.heap.size + 1) W7 (W7.setRow (w.heap.size + 1) (v.burn.set 1 dv').cells) := (Agrees.refl _ _).setRow (.inl (fun h => h rfl)) _
      exact PairAt.set (((HV.out.agrees HAF.out fun _ _ => trivial).burn).mono fun b hb => .inl hb) 1 ((HDK7.out.agrees hfin (fun b hb e => by omega)).at.mono fun b hb => .inr (by omega))
    · have HROW := Lib.hid (setRow_heap _ _ _ v.burn.cells _ _ HU1.out)
      have HAF := Lib.hid (HA6.out.setRow (p := w.heap.size + 1) (.inr (by omega)) v.burn.cells)
      have HPT : RowKit.Hid (P.put 1 at' p = P.burn) := by
        refine Lib.hid ?_
        unfold Pair.put
        rw [HWE.out, if_neg hE]
      have hEb : (P.d1.writeE at' == 0) = false := by simpa using hE
      go_wp2_with (first | (refine wpList_val rfl (ex_alloc rfl (.agg DV.zero.cells) zero_disk) ?_; rw [show (Value.agg DV.zero.cells).cells = DV.zero.cells from rfl, hq]) | (refine wpList_unit rfl (ex_storeAll (ty := 37) rfl isAgg_disk.2 q rfl dv'.cells DV.zero.cells rfl rfl HROWZ.out rfl (DV.one _)) ?_; rw [hW6]) | (refine wpList_val rfl (ex_load (ty := 40) rfl isAgg_pair w.heap.size 0 rfl v.burn.cells rfl (PV.load _ HU0.out)) ?_) | (refine wpList_unit rfl (ex_storeAll (ty := 40) rfl isAgg_pair.2 (w.heap.size + 1) rfl v.burn.cells PV.zero.cells rfl rfl HU1.out rfl (PV.one _)) ?_))
      refine bodyPost_ret (results_a1t1' rfl _ (b := w.heap.size + 1) rfl isAgg_pair (vs := v.burn.cells) rfl (PV.load _ HROW.out) rfl) rfl ⟨v.burn, by rw [HWE.out]; rfl, Lib.hid ⟨?_, HAF.out⟩⟩
      rw [HPT.out]
      exact ((HV.out.agrees HAF.out fun _ _ => trivial).burn).mono fun b hb => .inl hb
end Suture
/-
  A PAGE WRITTEN TO A PAIR: mirror.Put.
  Conditions: none beyond the pair's own reading; its lists are not longer than 9000.
-/
namespace Suture
open Go Go.RowKit Go.Proofs
attribute [local go_sem] Oper.semAt_some

theorem does_calls (R0 : Nat → Prop) (v : PV) (P : Pair) (i : Nat) (hi : i < 2) (at' : Int) (p : List (BitVec 8)) (hp : p.length = 256) (ha : in64 at') (A Pg : Nat) (w : World) (hv : PairAt R0 w v P) (hs : v.small) (hA : w.heap[A]? = some (.cells #[.int .i64 at'] 3 (0, 0))) (hP : w.heap[Pg]? = some (.cells (pageCells p) 32 (0, 0))) :
    Calls Try.prog 63 #[.agg v.cells, .int .i64 i, .func (.func 64) #[] #[.pointer (some ⟨A, 0, none⟩), .pointer (some ⟨Pg, 0, none⟩)]] w fun e w' => ∃ v' : PV, e = .returned (.tuple #[.agg v'.cells, .int .i64 (P.putE i at')]) ∧ RowKit.Hid (PairAt (fun b => R0 b ∨ w.heap.size + 1 + 1 ≤ b) w' v' (P.put i at' p) ∧ Agrees All w w') := by
  have : i = 0 ∨ i = 1 := by omega
  rcases this with rfl | rfl
  · exact does0_calls R0 v P at' p hp ha A Pg w hv hs hA hP
  · exact does1_calls R0 v P at' p hp ha A Pg w hv hs hA hP

theorem CellsAt.both {R : Nat → Prop} {w : World} {v : Value} {size n : Nat} {cs : List Value} (h : CellsAt R w v size n cs) : CellsAt (fun b => R b ∧ b < w.heap.size) w v size n cs := by
  obtain ⟨a, cap, hv, hn, hb, hc⟩ := h
  refine ⟨a, cap, hv, hn, hb, fun i x hx => ?_⟩
  obtain ⟨b, off, ha, hR, hlt, hcell⟩ := hc i x hx
  exact ⟨b, off, ha, ⟨hR, hlt⟩, hlt, hcell⟩
theorem DiskAt.both {R : Nat → Prop} {w : World} {v : DV} {d : Disk} (h : DiskAt R w v d) : DiskAt (fun b => R b ∧ b < w.heap.size) w v d :=
  ⟨h.pages.both, h.pn, h.cache.both, h.cn, h.bad.both, h.bn, h.off, h.ok⟩
theorem PairAt.both {R : Nat → Prop} {w : World} {v : PV} {P : Pair} (h : PairAt R w v P) : PairAt (fun b => R b ∧ b < w.heap.size) w v P := ⟨h.d0.both, h.d1.both, h.fuse, h.down, h.in64⟩

set_option maxHeartbeats 2000000 in
set_option maxRecDepth 100000 in
theorem mput_calls (R0 : Nat → Prop) (v : PV) (P : Pair) (i : Nat) (hi : i < 2) (at' : Int) (p : List (BitVec 8)) (hp : p.length = 256) (ha : in64 at') (w : World) (hv : PairAt R0 w v P) (hs : v.small) :
    Calls Try.prog 53 #[.agg v.cells, .int .i64 i, .int .i64 at', .agg (pageCells p)] w fun e w' => ∃ v' : PV, e = .returned (.tuple #[.agg v'.cells, .int .i64 (P.putE i at')]) ∧ RowKit.Hid (PairAt (fun b => R0 b ∨ w.heap.size ≤ b) w' v' (P.put i at' p) ∧ Agrees All w w') := by
  obtain ⟨W1, hW1⟩ : ∃ W1, w.alloc (.cells v.cells 40) = W1 := ⟨_, rfl⟩
  obtain ⟨W2, hW2⟩ : ∃ W2, W1.alloc (.cells #[.int .i64 at'] 3) = W2 := ⟨_, rfl⟩
  obtain ⟨W3, hW3⟩ : ∃ W3, W2.alloc (.cells (pageCells p) 32) = W3 := ⟨_, rfl⟩
  obtain ⟨W4, hW4⟩ : ∃ W4, W3.alloc (.cells PV.zero.cells 40) = W4 := ⟨_, rfl⟩
  have hs1 : W1.heap.size = w.heap.size + 1 := by rw [← hW1]; simp
  have hs2 : W2.heap.size = w.heap.size + 1 + 1 := by rw [← hW2]; simp [hs1]
  have hs3 : W3.heap.size = w.heap.size + 1 + 1 + 1 := by rw [← hW3]; simp [hs2]
  have hs4 : W4.heap.size = w.heap.size + 1 + 1 + 1 + 1 := by rw [← hW4]; simp [hs3]
  have hA4 : Agrees All w W4 := by rw [← hW4, ← hW3, ← hW2, ← hW1]; exact ((((Agrees.refl _ w).alloc _).alloc _).alloc _).alloc _
  have hr0 : W4.heap[w.heap.size]? = some (.cells v.cells 40 (0, 0)) := by
    rw [← hW4, heap_alloc_old _ _ (by omega), ← hW3, heap_alloc_old _ _ (by omega), ← hW2, heap_alloc_old _ _ (by omega), ← hW1]; exact World.alloc_heap_new w _
  have hr1 : W4.heap[w.heap.size + 1]? = some (.cells #[.int .i64 at'] 3 (0, 0)) := by
    rw [← hW4, heap_alloc_old _ _ (by omega), ← hW3, heap_alloc_old _ _ (by omega), ← hW2, ← hs1]; exact World.alloc_heap_new W1 _
  have hr2 : W4.heap[w.heap.size + 1 + 1]? = some (.cells (pageCells p) 32 (0, 0)) := by
    rw [← hW4, heap_alloc_old _ _ (by omega), ← hW3, ← hs2]; exact World.alloc_heap_new W2 _
  have hr3 : W4.heap[w.heap.size + 1 + 1 + 1]? = some (.cells PV.zero.cells 40 (0, 0)) := by
    rw [← hW4, ← hs3]; exact World.alloc_heap_new W3 _
  have HD := Lib.hid (does_calls _ v P i hi at' p hp ha (w.heap.size + 1) (w.heap.size + 1 + 1) W4 (hv.both.agrees hA4 fun _ _ => trivial) hs hr1 hr2)
  have HR0 := Lib.hid hr0
  have HR3 := Lib.hid hr3
  have HA4 := Lib.hid hA4
  have hin : in64 (i : Int) := by unfold in64; omega
  have h0 : ¬ ((i : Int) < 0) := by omega
  have h1 : ¬ ((1 : Int) < (i : Int)) := by omega
  clear hr0 hr1 hr2 hr3 hA4 hin hv
  go_enter Try.func53, Try.ntmps53
  go_wp2_with (first | (refine wpList_val rfl (ex_alloc rfl (.agg PV.zero.cells) zero_pair) ?_; rw [show (Value.agg PV.zero.cells).cells = PV.zero.cells from rfl, hW4, hs3]) | (refine wpList_val rfl (ex_load (ty := 40) rfl isAgg_pair w.heap.size 0 rfl v.cells rfl (v.load HR0.out)) ?_))
  refine HD.out.mono ?_
  rintro e W5 ⟨v', rfl, hh⟩
  have hag := hh.out.2
  have HZ := Lib.hid ((hag.block _ (Array.getElem?_eq_some_iff.1 HR3.out).1 trivial).trans HR3.out)
  have HROW := Lib.hid (setRow_heap _ _ _ v'.cells _ _ HZ.out)
  have HAF := Lib.hid ((HA4.out.trans hag).setRow (p := w.heap.size + 1 + 1 + 1) (.inr (by omega)) v'.cells)
  clear hag
  go_wp2_with (refine wpList_unit rfl (ex_storeAll (ty := 40) rfl isAgg_pair.2 (w.heap.size + 1 + 1 + 1) rfl v'.cells PV.zero.cells rfl rfl HZ.out rfl (PV.one _)) ?_)
  refine bodyPost_ret (results_a1t1' rfl _ (b := w.heap.size + 1 + 1 + 1) rfl isAgg_pair (vs := v'.cells) rfl (PV.load _ HROW.out) rfl) rfl ⟨v', rfl, Lib.hid ⟨?_, HAF.out⟩⟩
  refine (hh.out.1.agrees ((Agrees.refl (fun b => b ≠ w.heap.size + 1 + 1 + 1) W5).setRow (.inl (fun h => h rfl)) v'.cells) (fun b hb e => ?_)).mono fun b hb => ?_
  · rcases hb with hb | hb <;> omega
  · rcases hb with hb | hb
    · exact .inl hb.1
    · exact .inr (by omega)
end Suture
/-
  A PAGE's COPIES: mirror.copies and its iterator.
  Conditions: none.
-/
namespace Suture
open Go Go.RowKit Go.Proofs
attribute [local go_sem] Oper.semAt_some

theorem wpListIn_not {P : Program} {F : Fence} {n : Nat} {ops : Array Oper} {rest : List Oper} {o : Oper} {a : Act} {w : World} {Q : Exit → Act → World → Prop} (hF : ∀ f, F.fn f) (hw : Region.wanted o (yielded ops a.tmps) = false) (k : wpListIn F n P ops Q rest (a.put o.dst undef) w) : wpListIn F n P ops Q (o :: rest) a w := by
  unfold wpListIn
  rw [if_neg (by rw [hw]; exact Bool.false_ne_true)]
  exact ⟨fun f _ => hF f, k⟩

/-- a page's copies: disk and place -/
def Ptr.copies (x : Ptr) : List (Int × Int) := if x.isMeta then [(0, x.a0), (0, x.a1), (1, x.a0), (1, x.a1)] else [(0, x.a0), (1, x.a0)]

theorem mcopies_calls (x : Ptr) (w : World) :
    Calls Try.prog 67 #[.agg x.cells] w fun e w' => e = .returned (.func (.func 73) #[] #[.pointer (some ⟨w.heap.size, 0, none⟩)]) ∧ w.alloc (.cells x.cells 48) = w' := by
  go_enter Try.func67, Try.ntmps67
  go_wp2
  go_ret
  exact ⟨rfl, rfl⟩

set_option maxHeartbeats 2000000 in
set_option maxRecDepth 100000 in
theorem mcopies1_iter (R : Nat → Prop) (n₀ : Nat) (w0 : World) (Bx : Nat) (x : Ptr) (hx : x.ok) (hbox : w0.heap[Bx]? = some (.cells x.cells 48 (0, 0))) (hRB : R Bx) (hR : ∀ b, R b → b < w0.heap.size) :
    IterAt Try.prog 73 #[.pointer (some ⟨Bx, 0, none⟩)] (fun k => #[.int .i64 (x.copies.getD k (0, 0)).1, .int .i64 (x.copies.getD k (0, 0)).2]) x.copies.length n₀ R w0 := by
  intro l J Jx C W hag hC hJ hJx hY h0
  refine (callsIn_wide (n := 0)).1 ?_
  have hB := (Array.getElem?_eq_some_iff.1 hbox).1
  have hFn : ∀ f, Fence.wide.fn f := fun _ => trivial
  have hro : Fence.wide.round = none := rfl
  have hdp : Fence.wide.depth = none := rfl
  have hMF := fun W => (callsIn_wide (n := 0)).2 (meta_calls x W)
  obtain ⟨kd, a0, a1, bi, su⟩ := x
  obtain ⟨hk, h0r, h1r, _⟩ := hx
  simp only at hk h0r h1r
  have hm : (Ptr.mk kd a0 a1 bi su).isMeta = (kd == 1 || kd == 2) := rfl
  have hL : (Ptr.mk kd a0 a1 bi su).copies = if (kd == 1 || kd == 2) = true then [(0, a0), (0, a1), (1, a0), (1, a1)] else [(0, a0), (1, a0)] := rfl
  have w16 : ∀ a : Int, 0 ≤ a ∧ a ≤ 65535 → IntKind.i64.wrap a = a := fun a h => by rw [IntKind.wrap_i64]; omega
  have e0 := w16 a0 h0r
  have e1 := w16 a1 h1r
  rw [hL] at hY ⊢
  rw [hm] at hMF
  have HBX := Lib.hid hbox
  have HF := Lib.hid hMF
  clear hbox w16 hL hm hMF
  by_cases hmt : (kd == 1 || kd == 2) = true
  · rw [if_pos hmt] at hY ⊢
    rw [hmt] at HF
    generalize Fence.wide = F at *
    refine callsIn_of_wp Try.func73 rfl (hFn _) ?_ hro
    simp only [Try.ntmps73, List.size_toArray, List.length_cons, List.length_nil, Nat.reduceAdd, Nat.reduceSub, Array.replicate_succ, Array.replicate_zero, List.push_toArray, List.append_toArray, List.nil_append, List.cons_append]
    have HAG := Lib.hid hag
    have HCC := Lib.hid hC
    have HY := Lib.hid hY
    have HH0 := Lib.hid h0
    have HJ := Lib.hid hJ
    clear hag hC hY h0 hJ
    gi_wp2
    gi_loopw [4] (fun v wr => ∃ (C : Nat → Prop) (i : Nat), i ≤ 2 ∧ v = .int .i64 i ∧ RowKit.Hid (J (2 * i) C wr ∧ Agrees R w0 wr ∧ ∀ b, C b → ¬ R b ∧ b < wr.heap.size)) (fun v _ => 2 - (intOf v).toNat)
    case atStart => exact ⟨C, 0, by omega, rfl, ⟨HH0.out, HAG.out, HCC.out⟩⟩
    case round =>
      obtain ⟨C1, i, hi, rfl, HW⟩ := hrel
      have hcase : i = 0 ∨ i = 1 ∨ i = 2 := by omega
      obtain ⟨hj, ha, hc⟩ := HW.out
      have hbW := (ha.block Bx hB hRB).trans HBX.out
      obtain ⟨c0, c1, c2, c3, c4⟩ := ptr_at hbW
      by_cases hlt : i < 2
      · have he : ([(0, a0), (0, a1), (1, a0), (1, a1)] : List (Int × Int)).getD (2 * i) (0, 0) = ((i : Int), a0) ∧ ([(0, a0), (0, a1), (1, a0), (1, a1)] : List (Int × Int)).getD (2 * i + 1) (0, 0) = ((i : Int), a1) := by
          rcases hcase with rfl | rfl | rfl
          · exact ⟨rfl, rfl⟩
          · exact ⟨rfl, rfl⟩
          · omega
        have hlen : ([(0, a0), (0, a1), (1, a0), (1, a1)] : List (Int × Int)).length = 4 := rfl
        obtain ⟨fn, tmps, assign, body, hy, hR'⟩ := HY.out (2 * i) C1 wr (by rw [hlen]; omega) hj (fun b hb => (hc b hb).2)
        rw [he.1] at hy
        have HE := Lib.hid he
        have HCY := Lib.hid hc
        have HAA := Lib.hid ha
        clear HW hj hc he hbW ha hcase
        gi_wp2
        refine hR'.mono ?_
        rintro e W3 (⟨rfl, hag3, C3, hj3, hC3⟩ | ⟨rfl, hag3, C3, hj3, hC3⟩)
        · have ha3 := HAA.out.trans' hag3 (fun b hb hr hc => (HCY.out b hc).1 hr)
          have hb3 := (ha3.block Bx hB hRB).trans HBX.out
          have hC3' : ∀ b, C3 b → ¬ R b ∧ b < W3.heap.size := fun b hb => ⟨fun hr => (hC3 b hb).2.elim (fun h => (HCY.out b h).1 hr) (fun h => by have := hR b hr; have := HAA.out.size; omega), (hC3 b hb).1⟩
          have HC3 := Lib.hid hC3'
          have HA3 := Lib.hid ha3
          have HJ3 := Lib.hid hj3
          have HB3 := Lib.hid hb3
          clear hag3 hj3 hC3 hC3' ha3 hb3 hR' c0 c1 c2 c3 c4 hy
          gi_wp2_with (refine wpListIn_val hFn (by rw [hro]; rfl) rfl (ex_load (ty := 48) rfl isAgg_ptr Bx 0 rfl (Ptr.mk kd a0 a1 bi su).cells rfl (Ptr.load _ HB3.out)) ?_)
          refine (HF.out _).mono ?_
          rintro e W4 ⟨rfl, hag4⟩
          have hj4 := HJ.out _ _ _ _ HJ3.out hag4.weak
          have HA4 := Lib.hid (HA3.out.trans hag4.weak)
          have hb4 := (HA4.out.block Bx hB hRB).trans HBX.out
          have hC4 : ∀ b, C3 b → ¬ R b ∧ b < W4.heap.size := fun b hb => ⟨(HC3.out b hb).1, by have := (HC3.out b hb).2; have := hag4.size; omega⟩
          obtain ⟨c0, c1, c2, c3, c4⟩ := ptr_at hb4
          obtain ⟨fn, tmps, assign, body, hy, hR4⟩ := HY.out (2 * i + 1) C3 W4 (by rw [hlen]; omega) hj4 (fun b hb => (hC4 b hb).2)
          rw [HE.out.2] at hy
          have HC4 := Lib.hid hC4
          clear hag4 hj4 hb4 hC4 HJ3 HA3 HC3 HB3
          gi_wp2
          refine hR4.mono ?_
          rintro e W5 (⟨rfl, hag5, C5, hj5, hC5⟩ | ⟨rfl, hag5, C5, hj5, hC5⟩)
          · have ha5 := HA4.out.trans' hag5 (fun b hb hr hc => (HC4.out b hc).1 hr)
            have hC5' : ∀ b, C5 b → ¬ R b ∧ b < W5.heap.size := fun b hb => ⟨fun hr => (hC5 b hb).2.elim (fun h => (HC4.out b h).1 hr) (fun h => by have := hR b hr; have := HA4.out.size; omega), (hC5 b hb).1⟩
            have HW5 : RowKit.Hid (J (2 * (i + 1)) C5 W5 ∧ Agrees R w0 W5 ∧ ∀ b, C5 b → ¬ R b ∧ b < W5.heap.size) := ⟨by rw [show 2 * (i + 1) = 2 * i + 1 + 1 by omega]; exact hj5, ha5, hC5'⟩
            clear hag5 hj5 hC5 ha5 hC5' hy hR4 c0 c1 c2 c3 c4
            gi_wp2
            exact ⟨⟨C5, i + 1, by omega, by simp, HW5⟩, by simp [intOf]; omega⟩
          · have HX := Lib.hid hj5
            clear hag5 hj5 hC5 hy hR4 c0 c1 c2 c3 c4
            gi_wp2
            refine bodyPost_ret (results_none rfl _ _ _) rfl ?_
            exact ⟨⟨_, rfl⟩, C5, .inr ⟨2 * i + 1, (show 2 * i + 1 < 4 by omega), HX.out⟩⟩
        · have HX := Lib.hid hj3
          clear hag3 hj3 hC3 hy hR' c0 c1 c2 c3 c4
          gi_wp2_with (refine wpListIn_not hFn rfl ?_)
          refine bodyPost_ret (results_none rfl _ _ _) rfl ?_
          exact ⟨⟨_, rfl⟩, C3, .inr ⟨2 * i, (show 2 * i < 4 by omega), HX.out⟩⟩
      · obtain rfl : i = 2 := by omega
        clear c0 c1 c2 c3 c4
        gi_wp2
        go_end0
        exact ⟨⟨_, rfl⟩, C1, .inl hj⟩
  · have hmf : (kd == 1 || kd == 2) = false := by simpa using hmt
    rw [if_neg hmt] at hY ⊢
    rw [hmf] at HF
    clear hmt
    generalize Fence.wide = F at *
    refine callsIn_of_wp Try.func73 rfl (hFn _) ?_ hro
    simp only [Try.ntmps73, List.size_toArray, List.length_cons, List.length_nil, Nat.reduceAdd, Nat.reduceSub, Array.replicate_succ, Array.replicate_zero, List.push_toArray, List.append_toArray, List.nil_append, List.cons_append]
    have HAG := Lib.hid hag
    have HCC := Lib.hid hC
    have HY := Lib.hid hY
    have HH0 := Lib.hid h0
    have HJ := Lib.hid hJ
    clear hag hC hY h0 hJ
    gi_wp2
    gi_loopw [4] (fun v wr => ∃ (C : Nat → Prop) (i : Nat), i ≤ 2 ∧ v = .int .i64 i ∧ RowKit.Hid (J i C wr ∧ Agrees R w0 wr ∧ ∀ b, C b → ¬ R b ∧ b < wr.heap.size)) (fun v _ => 2 - (intOf v).toNat)
    case atStart => exact ⟨C, 0, by omega, rfl, ⟨HH0.out, HAG.out, HCC.out⟩⟩
    case round =>
      obtain ⟨C1, i, hi, rfl, HW⟩ := hrel
      have hcase : i = 0 ∨ i = 1 ∨ i = 2 := by omega
      obtain ⟨hj, ha, hc⟩ := HW.out
      have hbW := (ha.block Bx hB hRB).trans HBX.out
      obtain ⟨c0, c1, c2, c3, c4⟩ := ptr_at hbW
      by_cases hlt : i < 2
      · have he : ([(0, a0), (1, a0)] : List (Int × Int)).getD i (0, 0) = ((i : Int), a0) := by
          rcases hcase with rfl | rfl | rfl
          · rfl
          · rfl
          · omega
        have hlen : ([(0, a0), (1, a0)] : List (Int × Int)).length = 2 := rfl
        obtain ⟨fn, tmps, assign, body, hy, hR'⟩ := HY.out i C1 wr (by rw [hlen]; omega) hj (fun b hb => (hc b hb).2)
        rw [he] at hy
        have HCY := Lib.hid hc
        have HAA := Lib.hid ha
        clear HW hj hc he hbW ha hcase
        gi_wp2
        refine hR'.mono ?_
        rintro e W3 (⟨rfl, hag3, C3, hj3, hC3⟩ | ⟨rfl, hag3, C3, hj3, hC3⟩)
        · have ha3 := HAA.out.trans' hag3 (fun b hb hr hc => (HCY.out b hc).1 hr)
          have hb3 := (ha3.block Bx hB hRB).trans HBX.out
          have hC3' : ∀ b, C3 b → ¬ R b ∧ b < W3.heap.size := fun b hb => ⟨fun hr => (hC3 b hb).2.elim (fun h => (HCY.out b h).1 hr) (fun h => by have := hR b hr; have := HAA.out.size; omega), (hC3 b hb).1⟩
          have HC3 := Lib.hid hC3'
          have HA3 := Lib.hid ha3
          have HJ3 := Lib.hid hj3
          have HB3 := Lib.hid hb3
          clear hag3 hj3 hC3 hC3' ha3 hb3 hR' c0 c1 c2 c3 c4 hy
          gi_wp2_with (refine wpListIn_val hFn (by rw [hro]; rfl) rfl (ex_load (ty := 48) rfl isAgg_ptr Bx 0 rfl (Ptr.mk kd a0 a1 bi su).cells rfl (Ptr.load _ HB3.out)) ?_)
          refine (HF.out _).mono ?_
          rintro e W4 ⟨rfl, hag4⟩
          have hj4 := HJ.out _ _ _ _ HJ3.out hag4.weak
          have HW4 : RowKit.Hid (J (i + 1) C3 W4 ∧ Agrees R w0 W4 ∧ ∀ b, C3 b → ¬ R b ∧ b < W4.heap.size) := ⟨hj4, HA3.out.trans hag4.weak, fun b hb => ⟨(HC3.out b hb).1, by have := (HC3.out b hb).2; have := hag4.size; omega⟩⟩
          clear hag4 hj4 HJ3 HA3 HC3 HB3
          gi_wp2_with (refine wpListIn_not hFn rfl ?_)
          exact ⟨⟨C3, i + 1, by omega, by simp, HW4⟩, by simp [intOf]; omega⟩
        · have HX := Lib.hid hj3
          clear hag3 hj3 hC3 hy hR' c0 c1 c2 c3 c4
          gi_wp2_with (refine wpListIn_not hFn rfl ?_)
          refine bodyPost_ret (results_none rfl _ _ _) rfl ?_
          exact ⟨⟨_, rfl⟩, C3, .inr ⟨i, (show i < 2 by omega), HX.out⟩⟩
      · obtain rfl : i = 2 := by omega
        clear c0 c1 c2 c3 c4
        gi_wp2
        go_end0
        exact ⟨⟨_, rfl⟩, C1, .inl hj⟩
end Suture
/-
  A PAGE's COPIES, listed: mirror.Copies; a list that grows in a box, its elements of any width.
  Conditions: none.
-/
namespace Suture
open Go Go.RowKit Go.Proofs
attribute [local go_sem] Oper.semAt_some

theorem setCell_self {W : World} {b : Nat} {v : Value} {t : TypeId} (h : W.heap[b]? = some (.cells #[v] t (0, 0))) : W.setCell ⟨b, 0, none⟩ v = W := by
  rw [setCell_eq_setRow W b 0 #[v] t (0, 0) v h]
  exact setRow_self W b _ t (0, 0) h
theorem ownsRow_put {W : World} {base D : Nat} {e : TypeId} {size n : Nat} {v : Value} {xs : List Value} (h : W.ownsRow base e size v n xs) (hD : v.ownBlock ≠ some D) (o : Obj) : (W.putObj D o).ownsRow base e size v n xs := by
  refine ⟨h.1, ?_⟩
  rcases h.2 with hn | ⟨g, cap, cur, rfl, h1, h2, hr⟩
  · exact .inl hn
  · exact .inr ⟨g, cap, cur, rfl, h1, (World.putObj_heap_other (fun e => hD (by simp [Value.ownBlock, e]))).trans h2, hr⟩
/-- the world of a list that grows in a box, its row younger than the box -/
structure ListS (R : Nat → Prop) (w : World) (box : Nat) (bt et : TypeId) (s n : Nat) (xs : List Value) (W : World) (v : Value) : Prop where
  ag : Agrees R w W
  row : W.heap[box]? = some (.cells #[v] bt (0, 0))
  own : W.ownsRow (box + 1) et s v n xs
theorem ListS.sta {R S : Nat → Prop} {w : World} {box : Nat} {bt et : TypeId} {s n : Nat} {xs : List Value} {W W' : World} {v : Value} (h : ListS R w box bt et s n xs W v) (g : Agrees S W W') (hS : ∀ b, (b = box ∨ v.ownBlock = some b ∨ (R b ∧ b < w.heap.size)) → S b) : ListS R w box bt et s n xs W' v := by
  have h1 := (Array.getElem?_eq_some_iff.1 h.row).1
  refine ⟨h.ag.trans' g (fun b hb hr => hS b (.inr (.inr ⟨hr, hb⟩))), (g.block _ h1 (hS _ (.inl rfl))).trans h.row, h.own.1, ?_⟩
  rcases h.own.2 with hn | ⟨gb, cap, cur, rfl, hb, hg, hr⟩
  · exact .inl hn
  · exact .inr ⟨gb, cap, cur, rfl, hb, (g.block _ (Array.getElem?_eq_some_iff.1 hg).1 (hS _ (.inr (.inl rfl)))).trans hg, hr⟩
/-- what an append onto it leaves, ahead of the store and behind it -/
structure Pushed (R : Nat → Prop) (w : World) (box : Nat) (bt et : TypeId) (s n : Nat) (ys : List Value) (W : World) (v : Value) (W1 : World) (v' : Value) : Prop where
  row : W1.heap[box]? = some (.cells #[v] bt (0, 0))
  ag : Agrees (fun b => ¬ (b = box ∨ v.ownBlock = some b)) W W1
  list : ListS R w box bt et s n ys (W1.setCell ⟨box, 0, none⟩ v') v'
  blk : ∀ b, (b = box ∨ v'.ownBlock = some b) → b < (W1.setCell ⟨box, 0, none⟩ v').heap.size ∧ ((b = box ∨ v.ownBlock = some b) ∨ W.heap.size ≤ b)
  one : v'.oneCell' = true
theorem ListS.push {P : Program} {R : Nat → Prop} {w : World} {box : Nat} {bt : TypeId} {s n : Nat} {xs : List Value} {W : World} {v : Value} {t e : TypeId} (h : ListS R w box bt e s n xs W v) (hRb : ∀ b, R b → b < w.heap.size → b ≠ box ∧ v.ownBlock ≠ some b) {i : TypeInfo} {z : Value} {bytes : Nat} (ht : P.underlying t = some (.slice e)) (hi : P.info? e = some i) (hz : i.zero = some z)
    (hsize : i.size = s) (hby : i.bytes = bytes) (hzs : z.cells.size = s) (hsz : 0 < s) (news : Array Value) (hn : news.size = s) (h1 : ∀ u ∈ news, u.oneCell' = true) (h63 : n + 1 ≤ maxLen) (hbytes : (n + 1) * bytes ≤ 140737488355328) :
    ∃ v' W1, (∀ ty, (Builtin.append_ #[t, t] ty #[v, .slice (some ⟨W.heap.size, 0, none⟩) 1 1]).run P (W.alloc (.cells news e)) = .ok v' W1) ∧ Pushed R w box bt e s (n + 1) (xs ++ news.toList) W v W1 v' := by
  have hb1 := (Array.getElem?_eq_some_iff.1 h.row).1
  have hob : ∀ b, v.ownBlock = some b → box + 1 ≤ b := fun b hb => (h.own.lt b hb).1
  obtain ⟨v', W1, hrun, hown, hg, _, hat⟩ := run_append_own_at (P := P) (W.alloc (.cells news e)) (box + 1) t t e i z s bytes ht hi hz hsize hby hzs hsz
    v n xs (h.own.alloc _) ⟨W.heap.size, 0, none⟩ 1 1 news.toList (by simp [hn]) (by intro j u hu; rw [addr_add, cell_of_row _ _ _ _ _ _ (World.alloc_heap_new W _)]; rw [Nat.zero_add]; simpa using hu) (by intro u hu; exact h1 u (by simpa using hu)) h63 hbytes (by simp; omega)
  have hrun' : ∀ ty, (Builtin.append_ #[t, t] ty #[v, .slice (some ⟨W.heap.size, 0, none⟩) 1 1]).run P (W.alloc (.cells news e)) = .ok v' W1 := fun ty => hrun
  have hrow1 : W1.heap[box]? = some (.cells #[v] bt (0, 0)) := by
    rw [hg.block _ (by simp; omega) (fun e => by have := hob _ e.symm; omega), heap_alloc_old _ _ hb1]; exact h.row
  have hag1 : Agrees (fun b => ¬ (b = box ∨ v.ownBlock = some b)) W W1 := by
    refine ⟨hg.os, hg.tape, hg.output, Nat.le_trans (by simp) hg.size, fun b hb hn => ?_⟩
    rw [hg.block b (by simp; omega) (fun e => hn (.inr e.symm))]
    exact heap_alloc_old _ _ hb
  have hgs := hg.size
  refine ⟨v', W1, hrun', ⟨hrow1, hag1, ⟨(h.ag.trans' hag1 (fun b hb hr hc => ?_)).setCell ?_ _, heap_setCell_same _ _ 0 _ _ _ hrow1, hown.1, ?_⟩, fun b hb => ?_, own_one hown⟩⟩
  · have := hRb b hr hb
    rcases hc with hc | hc
    · exact this.1 hc
    · exact this.2 hc
  · by_cases hlt : box < w.heap.size
    · exact .inl (fun hr => (hRb box hr hlt).1 rfl)
    · exact .inr (by show w.heap.size ≤ box; omega)
  · rcases hown.2 with hn | ⟨gb, cap, cur, rfl, hb, hgg, hr⟩
    · exact .inl hn
    · exact .inr ⟨gb, cap, cur, rfl, hb, (heap_setCell_other _ _ _ _ (by show gb ≠ box; omega)).trans hgg, hr⟩
  · have hsz' : (W1.setCell ⟨box, 0, none⟩ v').heap.size = W1.heap.size := by simp [World.setCell]
    rw [hsz']
    simp at hgs
    rcases hb with rfl | hb
    · exact ⟨by omega, .inl (.inl rfl)⟩
    · refine ⟨(hown.lt b hb).2, ?_⟩
      rcases hat with e | e
      · rw [e] at hb; exact .inl (.inr hb)
      · rw [e] at hb; simp at hb; exact .inr (by omega)
end Suture
/-
  A PAGE's COPIES, listed: mirror.Copies.
  Conditions: none.
-/
namespace Suture
open Go Go.RowKit Go.Proofs
attribute [local go_sem] Oper.semAt_some

def copyL (c : Int × Int) : List Value := [.int .i64 c.1, .int .i64 c.2]
theorem infoTwo : (Try.prog.info? 55).map (fun i => (i.zero, i.size, i.bytes)) = some (some (.agg #[.int .i64 0, .int .i64 0]), 2, 16) := by kernel_rfl
theorem oneTwos : IsOne Try.prog 52 := ⟨⟨_, Try.underlying52, rfl⟩, by kernel_rfl⟩
theorem copies_le (x : Ptr) : x.copies.length ≤ 4 := by
  unfold Ptr.copies
  split <;> simp
theorem results_one {P : Program} {fn : Func} {p : Tmp} {ty : TypeId} (h : fn.results = #[.cell p ty]) (tmps : Array Value) {W : World} {b : Nat} {v : Value} (hp : tmps.getD p undef = .pointer (some ⟨b, 0, none⟩)) (hA : IsOne P ty)
    (hc : W.cell? ⟨b, 0, none⟩ = some v) : (results fn tmps).run P W = .ok v W := results_cell1 h tmps hp hA hc

set_option maxHeartbeats 2000000 in
set_option maxRecDepth 100000 in
theorem mCopies_calls (x : Ptr) (hx : x.ok) (w : World) : Calls Try.prog 57 #[.agg x.cells] w fun e w' => ∃ v, e = .returned v ∧ w'.ownsRow w.heap.size 55 2 v x.copies.length (x.copies.map copyL).flatten ∧ Agrees All w w' := by
  refine (callsIn_wide (n := 0)).1 (callsIn_of_wp_marks Try.func57 rfl trivial (wpIn_wide.2 ?_) rfl)
  simp only [Try.ntmps57, List.size_toArray, List.length_cons, List.length_nil, Nat.reduceAdd, Nat.reduceSub, Array.replicate_succ, Array.replicate_zero, List.push_toArray, List.append_toArray, List.nil_append, List.cons_append]
  obtain ⟨W0, hW0⟩ : ∃ W0, (w.alloc (.cells x.cells 48)).alloc (.cells #[.slice none 0 0] 52) = W0 := ⟨_, rfl⟩
  have hs0 : W0.heap.size = w.heap.size + 2 := by rw [← hW0]; simp
  have hA0 : Agrees All w W0 := by rw [← hW0]; exact ((Agrees.refl _ w).alloc _).alloc _
  have hb0 : W0.heap[w.heap.size]? = some (.cells x.cells 48 (0, 0)) := by rw [← hW0, heap_alloc_old _ _ (by simp)]; exact World.alloc_heap_new w _
  have hb1 : W0.heap[w.heap.size + 1]? = some (.cells #[.slice none 0 0] 52 (0, 0)) := by
    rw [← hW0]; have := World.alloc_heap_new (w.alloc (.cells x.cells 48)) (.cells #[.slice none 0 0] 52); rwa [World.size_alloc] at this
  have HA := Lib.hid hA0
  have HB0 := Lib.hid hb0
  have HB1 := Lib.hid hb1
  clear hA0 hb0 hb1
  go_wp2_with (first | (go_at_call 67; refine (mcopies_calls x _).mono ?_; rintro e w' ⟨rfl, rfl⟩) | (refine wpList_val rfl (ex_load (ty := 48) rfl isAgg_ptr w.heap.size 0 rfl x.cells rfl (x.load HB0.out)) ?_))
  obtain ⟨W2, hW2⟩ : ∃ W2, W0.alloc (.cells x.cells 48) = W2 := ⟨_, rfl⟩
  have hs2 : W2.heap.size = w.heap.size + 3 := by rw [← hW2]; simp [hs0]
  have hL : ListS All w (w.heap.size + 1) 52 55 2 0 [] W2 (.slice none 0 0) := by
    rw [← hW2]
    exact ⟨HA.out.alloc _, (heap_alloc_old _ _ (by omega)).trans HB1.out, World.ownsRow_nil _ _ _ _⟩
  have hbox : W2.heap[w.heap.size + 2]? = some (.cells x.cells 48 (0, 0)) := by rw [← hW2, ← hs0]; exact World.alloc_heap_new W0 _
  have HL := Lib.hid hL
  clear hL HB0 HB1 hW0
  rw [hW2]
  clear hW2
  have hbl := (Array.getElem?_eq_some_iff.1 hbox).1
  obtain ⟨i0, hi0, hz0, hz1, hz2⟩ := info_parts infoTwo
  have hle := copies_le x
  refine wp_rangeFunc_iter rfl (Go.Proofs.enters_of Try.func73 (by kernel_rfl) rfl) (mcopies1_iter (fun b => b = w.heap.size + 2) (w.heap.size + 1) W2 (w.heap.size + 2) x hx hbox rfl (fun b hb => by rw [hb]; exact hbl))
    (Agrees.refl _ _) (fun b hb => by rw [hb]; exact hbl) (by omega) (fun _ => rfl)
    (fun b => b = w.heap.size + 1) (fun b hb => ⟨by omega, by omega⟩)
    (fun k C W => ∃ v, C = (fun b => b = w.heap.size + 1 ∨ v.ownBlock = some b) ∧ k ≤ x.copies.length ∧ ListS All w (w.heap.size + 1) 52 55 2 k ((x.copies.take k).map copyL).flatten W v)
    (fun _ _ _ _ => False) ?stabI ?stabX ⟨.slice none 0 0, by funext b; simp [Value.ownBlock], by omega, by simpa using HL.out⟩
    (fun k => { tmps := #[.agg x.cells, .pointer (some ⟨w.heap.size, 0, none⟩), .pointer (some ⟨w.heap.size + 1, 0, none⟩), .int .i64 (x.copies.getD k (0, 0)).1, .int .i64 (x.copies.getD k (0, 0)).2, .agg x.cells, .func (.func 73) #[] #[.pointer (some ⟨w.heap.size + 2, 0, none⟩)], .int .i64 (x.copies.getD k (0, 0)).1, .int .i64 (x.copies.getD k (0, 0)).2, undef, undef, undef, undef, undef, undef, undef], defers := [] })
    ?assign ?body ?done ?stop
  case stabI =>
    rintro k C W W' ⟨v, rfl, hk, h⟩ hag
    exact ⟨v, rfl, hk, h.sta hag (fun b hb => by
      rcases hb with hb | hb | hb
      · exact .inl (.inl hb)
      · exact .inl (.inr hb)
      · exact .inr (by omega))⟩
  case stabX => exact fun _ _ _ _ _ h _ => h
  case assign =>
    intro l k W K hK
    generalize x.copies.getD k (0, 0) = av at *
    gi_wp2
    exact hK
  case body =>
    rintro l k C W hk ⟨v, rfl, hkl, hI⟩ hCW hsz
    have hsuc : ((x.copies.take (k + 1)).map copyL).flatten = ((x.copies.take k).map copyL).flatten ++ copyL (x.copies.getD k (0, 0)) := by
      rw [List.take_succ_eq_append_getElem hk, List.map_append, List.flatten_append, List.getD_eq_getElem?_getD, List.getElem?_eq_getElem hk]
      simp
    generalize x.copies.getD k (0, 0) = av at *
    obtain ⟨c1, c2⟩ := av
    have d1 : W.cell? ⟨w.heap.size + 1, 0, none⟩ = some v := cell_of_row W _ 0 _ _ _ hI.row
    have hob : ∀ b, v.ownBlock = some b → w.heap.size + 1 + 1 ≤ b := fun b hb => (hI.own.lt b hb).1
    obtain ⟨v', W1, hrun, hP⟩ := hI.push (P := Try.prog) (fun b _ hb => ⟨by omega, fun e => by have := hob b e; omega⟩) (t := 52) Try.underlying52 hi0 hz0 hz1 hz2 rfl (by decide) #[.int .i64 c1, .int .i64 c2] rfl (by intro u hu; simp at hu; rcases hu with rfl | rfl <;> rfl) (by simp only [maxLen]; omega) (by omega)
    have e1 : W1.cell? ⟨w.heap.size + 1, 0, none⟩ = some v := cell_of_row W1 _ 0 _ _ _ hP.row
    have e1f : W1.frozen? ⟨w.heap.size + 1, 0, none⟩ = false := frozen_of_row W1 _ 0 _ _ hP.row
    have hst : (store ⟨w.heap.size + 1, 0, none⟩ v').run Try.prog W1 = .ok () (W1.setCell ⟨w.heap.size + 1, 0, none⟩ v') := by
      rw [run_store _ _ _ _ _ hP.one, e1]
      simp [e1f]
    have HP := Lib.hid hP
    have HR := Lib.hid hrun
    have HS := Lib.hid hsuc
    have HO := Lib.hid hob
    clear hI hP hrun hsuc hob hbox hbl hi0 hz0 hz1 hz2
    gi_wp2_with (first
      | (refine wpListIn_val (fun _ => trivial) rfl rfl (ex_load1 (ty := 52) rfl oneTwos rfl d1) ?_)
      | (refine wpListIn_val (fun _ => trivial) rfl rfl (ex_buildSlice1 (T := 52) rfl rfl Try.underlying52 infoTwo (by decide) (by decide) rfl) ?_)
      | (refine wpListIn_val (fun _ => trivial) rfl rfl (ex_app rfl rfl rfl HR.out) ?_))
    refine ⟨HP.out.ag.setCell (.inl (fun h => h (.inl rfl))) _, _, ⟨v', rfl, by omega, ?_⟩, HP.out.blk⟩
    rw [HS.out]
    exact HP.out.list
  case done =>
    rintro D C W hD ⟨v, rfl, _, h⟩ hK hCD
    rw [List.take_length] at h
    have d1 : W.cell? ⟨w.heap.size + 1, 0, none⟩ = some v := cell_of_row W _ 0 _ _ _ h.row
    have d1f : W.frozen? ⟨w.heap.size + 1, 0, none⟩ = false := frozen_of_row W _ 0 _ _ h.row
    have hst : (store ⟨w.heap.size + 1, 0, none⟩ v).run Try.prog W = .ok () W := by
      rw [run_store _ _ _ _ _ (own_one h.own), d1, setCell_self h.row]
      simp [d1f]
    have HH := Lib.hid h
    have HK := Lib.hid hK
    have HD := Lib.hid (show w.heap.size + 3 ≤ D by omega)
    have HCD := Lib.hid hCD
    clear h hK hCD hi0 hz0 hz1 hz2 hbox hbl
    go_wp2_with (refine wpList_val rfl (ex_load1 (ty := 52) rfl oneTwos rfl d1) ?_)
    refine ⟨by simp, .inl ⟨_, _, rfl, run_takeDeferred HK.out, ?_⟩⟩
    have hne : w.heap.size + 1 ≠ D := by have := HD.out; omega
    refine ⟨_, results_one rfl _ (b := w.heap.size + 1) rfl oneTwos (cell_of_row _ _ 0 _ _ _ ((World.putObj_heap_other hne).trans HH.out.row)), ?_⟩
    refine ⟨v, rfl, ?_, HH.out.ag.putObj (.inr (by have := HD.out; omega)) _⟩
    exact ownsRow_put (ownsRow_base HH.out.own (show w.heap.size ≤ w.heap.size + 1 + 1 by omega)) (fun e => HCD.out (.inr e)) (.deferred none)
  case stop =>
    rintro D k c C W _ _ h
    exact h.elim
end Suture
/-
  A PAGE FETCHED, the words ahead: fetch.Size, fetch.copies, fetch.asked.
  Conditions: none beyond the pair's own reading.
-/
namespace Suture
open Go Go.RowKit Go.Proofs
attribute [local go_sem] Oper.semAt_some

/-- how many pages the smaller disk has -/
def PV.size (v : PV) : Int := min (v.d0.pn : Int) (v.d1.pn : Int)
def Pair.size (P : Pair) : Int := min (P.d0.pages.length : Int) (P.d1.pages.length : Int)
theorem PairAt.size {R : Nat → Prop} {w : World} {v : PV} {P : Pair} (h : PairAt R w v P) : P.size = v.size := by
  unfold Pair.size PV.size; rw [h.d0.pn, h.d1.pn]

set_option maxHeartbeats 1000000 in
theorem size_calls (v : PV) (hs : v.small) (w : World) : Calls Try.prog 40 #[.agg v.cells] w fun e w' => e = .returned (.int .i64 v.size) ∧ Agrees All w w' := by
  obtain ⟨W1, hW1⟩ : ∃ W1, w.alloc (.cells v.cells 40) = W1 := ⟨_, rfl⟩
  have hr1 : W1.heap[w.heap.size]? = some (.cells v.cells 40 (0, 0)) := by rw [← hW1]; exact World.alloc_heap_new w _
  have HA := Lib.hid (show Agrees All w W1 by rw [← hW1]; exact (Agrees.refl _ w).alloc _)
  have h0 := hs.s0.p
  have h1 := hs.s1.p
  obtain ⟨⟨pa, pn, pc, ca, cn, cc, ba, bn, bc, o0⟩, ⟨pa', pn', pc', ca', cn', cc', ba', bn', bc', o1⟩, f, dn⟩ := v
  have c0 : W1.cell? ⟨w.heap.size, 0, none⟩ = some (.slice pa pn pc) := by rw [cell_of_row _ _ _ _ _ _ hr1]; rfl
  have c4 : W1.cell? ⟨w.heap.size, 4, none⟩ = some (.slice pa' pn' pc') := by rw [cell_of_row _ _ _ _ _ _ hr1]; rfl
  clear hr1 hs
  simp only at h0 h1
  go_enter Try.func40, Try.ntmps40
  go_wp2_with fail
  all_goals
    go_ret
    first
      | exact ⟨congrArg (fun z : Int => Ending.returned (Value.int .i64 z)) (show (pn' : Int) = min (pn : Int) (pn' : Int) by omega), HA.out⟩
      | exact ⟨congrArg (fun z : Int => Ending.returned (Value.int .i64 z)) (show (pn : Int) = min (pn : Int) (pn' : Int) by omega), HA.out⟩

theorem fcopies_calls (v : PV) (x : Ptr) (w : World) :
    Calls Try.prog 47 #[.agg v.cells, .agg x.cells] w fun e w' => e = .returned (.func (.func 56) #[] #[.pointer (some ⟨w.heap.size + 1, 0, none⟩), .pointer (some ⟨w.heap.size, 0, none⟩)]) ∧ (w.alloc (.cells v.cells 40)).alloc (.cells x.cells 48) = w' := by
  go_enter Try.func47, Try.ntmps47
  go_wp2
  go_ret
  exact ⟨rfl, rfl⟩

/-- the first error ahead of reading -/
def Pair.asked (P : Pair) (x : Ptr) : Int := if P.down then 100 else if !(x.right P.size) then 2 else if P.d0.off && P.d1.off then 30 else 0

def vAsk (x : Ptr) (v : PV) : Nat → Value → Prop
  | 0, val => val = .agg x.cells
  | 1, val => val = .agg v.cells
  | 2, val => val = .int .i64 v.size
  | 3, val => val = .bool (x.right v.size)
  | 4, val => val = .bool (!(x.right v.size))
  | 5, val => val = .bool (!(x.right v.size))
  | _, _ => True

set_option maxHeartbeats 1000000 in
set_option maxRecDepth 100000 in
theorem fasked_calls (v : PV) (P : Pair) (x : Ptr) (hx : x.ok) (w : World) (hv : PairAt All w v P) (hsm : v.small) :
    Calls Try.prog 52 #[.agg v.cells, .agg x.cells] w fun e w' => e = .returned (.int .i64 (P.asked x)) ∧ Agrees All w w' := by
  obtain ⟨W1, hW1⟩ : ∃ W1, w.alloc (.cells v.cells 40) = W1 := ⟨_, rfl⟩
  obtain ⟨W2, hW2⟩ : ∃ W2, W1.alloc (.cells x.cells 48) = W2 := ⟨_, rfl⟩
  have hs1 : W1.heap.size = w.heap.size + 1 := by rw [← hW1]; simp
  have hr0 : W2.heap[w.heap.size]? = some (.cells v.cells 40 (0, 0)) := by
    rw [← hW2, heap_alloc_old _ _ (by omega), ← hW1]; exact World.alloc_heap_new w _
  have hr1 : W2.heap[w.heap.size + 1]? = some (.cells x.cells 48 (0, 0)) := by
    rw [← hW2, ← hs1]; exact World.alloc_heap_new W1 _
  have HA2 := Lib.hid (show Agrees All w W2 by rw [← hW2, ← hW1]; exact ((Agrees.refl _ w).alloc _).alloc _)
  have c9 : W2.cell? ⟨w.heap.size, 9, none⟩ = some (.bool v.down) := by rw [cell_of_row _ _ _ _ _ _ hr0]; rfl
  have HP : RowKit.Hid (P.asked x = if v.down then 100 else if !(x.right v.size) then 2 else if v.d0.off && v.d1.off then 30 else 0) := by
    refine Lib.hid ?_
    unfold Pair.asked
    rw [hv.down, hv.size, hv.d0.off, hv.d1.off]
  have HR0 := Lib.hid hr0
  have HR1 := Lib.hid hr1
  clear hr0 hr1 hv
  cases hdn : v.down
  · rw [hdn] at HP c9
    go_enter Try.func52, Try.ntmps52
    go_wp2_with fail
    obtain ⟨W0, hW0⟩ : ∃ W0, W2.drew = W0 := ⟨_, rfl⟩
    have hpr : W0.heap[w.heap.size]? = some (.cells v.cells 40 (0, 0)) := by rw [← hW0]; exact HR0.out
    have hxr : W0.heap[w.heap.size + 1]? = some (.cells x.cells 48 (0, 0)) := by rw [← hW0]; exact HR1.out
    have HA0 := Lib.hid (show Agrees All w W0 by rw [← hW0]; exact HA2.out.drew)
    refine wp_region_plan (by kernel_rfl) ?hok (by kernel_rfl) (vAsk x v) (fun _ _ W => Agrees All W0 W) ?h0 (fun i hi => ?steps) ?hend
    case hok => kernel_rfl
    case h0 => exact fun vals => by rw [hW0]; exact Agrees.refl _ _
    case steps =>
      generalize w.heap.size + 1 = xb at *
      generalize w.heap.size = pb at *
      have hi' : i < 6 := hi
      match i, hi' with
      | 0, _ =>
        refine steps_of rfl ?_
        intro L aq wq hL hd st wi
        have o3 := st.outside (t := 3) rfl (v := .pointer (some ⟨xb, 0, none⟩)) rfl
        exact opTo_val (v := .agg x.cells) rfl (ex_load rfl isAgg_ptr xb 0 (eval_tmp o3) x.cells rfl (x.load ((wi.block _ (Array.getElem?_eq_some_iff.1 hxr).1 trivial).trans hxr))) ⟨(fun h => by cases h), rfl, wi⟩
      | 1, _ =>
        refine steps_of rfl ?_
        intro L aq wq hL hd st wi
        have o2 := st.outside (t := 2) rfl (v := .pointer (some ⟨pb, 0, none⟩)) rfl
        exact opTo_val (v := .agg v.cells) rfl (ex_load rfl isAgg_pair pb 0 (eval_tmp o2) v.cells rfl (v.load ((wi.block _ (Array.getElem?_eq_some_iff.1 hpr).1 trivial).trans hpr))) ⟨(fun h => by cases h), rfl, wi⟩
      | 2, _ =>
        refine steps_of rfl ?_
        intro L aq wq hL hd st wi
        obtain ⟨u1, e1, V1⟩ := st.val 1 _ _ rfl rfl (hd ⟨1, .data⟩ (by simp) rfl)
        obtain rfl : .agg v.cells = u1 := V1.symm
        refine opTo_call (w' := wq) (f := 40) (args := #[.agg v.cells]) rfl (by simp [go_sem, Act.eval, e1]) ((size_calls v hsm wq).mono ?_)
        rintro e w' ⟨rfl, hag⟩
        exact ⟨_, rfl, (fun h => by cases h), rfl, wi.trans hag⟩
      | 3, _ =>
        refine steps_of rfl ?_
        intro L aq wq hL hd st wi
        obtain ⟨u0, e0, V0⟩ := st.val 0 _ _ rfl rfl (hd ⟨0, .data⟩ (by simp) rfl)
        obtain rfl : .agg x.cells = u0 := V0.symm
        obtain ⟨u2, e2, V2⟩ := st.val 2 _ _ rfl rfl (hd ⟨2, .data⟩ (by simp) rfl)
        obtain rfl : .int .i64 v.size = u2 := V2.symm
        refine opTo_call (w' := wq) (f := 46) (args := #[.agg x.cells, .int .i64 v.size]) rfl (by simp [go_sem, Act.eval, e0, e2]) ((right_calls x hx v.size wq).mono ?_)
        rintro e w' ⟨rfl, hag⟩
        exact ⟨_, rfl, (fun h => by cases h), rfl, wi.trans hag⟩
      | 4, _ =>
        refine steps_of rfl ?_
        intro L aq wq hL hd st wi
        obtain ⟨u3, e3, V3⟩ := st.val 3 _ _ rfl rfl (hd ⟨3, .data⟩ (by simp) rfl)
        obtain rfl : .bool (x.right v.size) = u3 := V3.symm
        exact opTo_val (v := .bool (!(x.right v.size))) rfl (by simp [go_sem, Act.eval, e3]) ⟨(fun h => by cases h), rfl, wi⟩
      | 5, _ =>
        refine steps_of rfl ?_
        intro L aq wq hL hd st wi
        obtain ⟨u4, e4, V4⟩ := st.val 4 _ _ rfl rfl (hd ⟨4, .data⟩ (by simp) rfl)
        obtain rfl : .bool (!(x.right v.size)) = u4 := V4.symm
        exact opTo_val (v := .bool (!(x.right v.size))) rfl (ex_move (.inr rfl) (eval_tmp e4)) ⟨(fun h => by cases h), rfl, wi⟩
      | (i + 6), h => omega
    case hend =>
      intro vals w' hV hW
      have x5 : vals 5 = .bool (!(x.right v.size)) := hV 5 _ _ rfl rfl
      have HAW := Lib.hid (HA0.out.trans hW)
      have HR := Lib.hid ((hW.block _ (Array.getElem?_eq_some_iff.1 hpr).1 trivial).trans hpr)
      have HL := Lib.hid (live_calls v w')
      simp only [putAll, Act.put, List.setIfInBounds_toArray, List.set_cons_succ, List.set_cons_zero, x5]
      clear hV hW x5 hpr hxr hW0 HR0 HR1 HA2 c9
      generalize x.right v.size = r at *
      cases r
      · go_wp2_with fail
        go_ret
        exact ⟨by rw [HP.out]; rfl, HAW.out⟩
      · go_wp2_with (refine wpList_val rfl (ex_load (ty := 40) rfl isAgg_pair w.heap.size 0 rfl v.cells rfl (v.load HR.out)) ?_)
        refine HL.out.mono ?_
        rintro e w3 ⟨rfl, hag⟩
        have HAF := Lib.hid (HAW.out.trans hag)
        clear hag
        generalize v.d0.off = o0 at *
        generalize v.d1.off = o1 at *
        cases o0 <;> cases o1
        all_goals
          simp only [liveTo]
          go_wp2_with fail
          go_ret
          exact ⟨by rw [HP.out]; rfl, HAF.out⟩
  · rw [hdn] at HP c9
    go_enter Try.func52, Try.ntmps52
    go_wp2_with fail
    go_ret
    exact ⟨by rw [HP.out]; rfl, HA2.out⟩
end Suture
/-
  A COPY FOUND, BUILT: fetch's word {at, page, right}.
  Conditions: none.
-/
namespace Suture
open Go Go.RowKit Go.Proofs

def fndL (c : Int × Int) (p : List (BitVec 8)) (r : Bool) : List Value := copyL c ++ (p.map B ++ [.bool r])
def fndCells (c : Int × Int) (p : List (BitVec 8)) (r : Bool) : Array Value := (fndL c p r).toArray
theorem fndCells_size (c : Int × Int) (p : List (BitVec 8)) (r : Bool) (hp : p.length = 256) : (fndCells c p r).size = 259 := by simp [fndCells, fndL, copyL, hp]
def zeroFnd : Array Value := fndCells (0, 0) (List.replicate 256 0#8) false
theorem zero_found (w : World) : (zeroValue 96).run Try.prog w = .ok (.agg zeroFnd) w := by
  unfold zeroFnd fndCells fndL
  kernel_rfl
theorem zeroFnd_size : zeroFnd.size = 259 := fndCells_size _ _ _ (by rw [List.length_replicate])
attribute [irreducible] zeroFnd

theorem three_parts {α : Type} (k q z : List α) (s : α) (hk : k.length = 2) (hq : q.length = 256) (hz : z.length = 259) :
    List.take 258 (List.take 2 (List.take 0 z ++ k ++ List.drop (0 + 2) z) ++ q ++ List.drop (2 + 256) (List.take 0 z ++ k ++ List.drop (0 + 2) z)) ++ [s] ++ List.drop (258 + 1) (List.take 2 (List.take 0 z ++ k ++ List.drop (0 + 2) z) ++ q ++ List.drop (2 + 256) (List.take 0 z ++ k ++ List.drop (0 + 2) z)) = k ++ (q ++ [s]) := by
  have e1 : List.take 0 z ++ k ++ List.drop (0 + 2) z = k ++ List.drop 2 z := by simp
  rw [e1, List.take_left' hk]
  have e2 : List.take 258 (k ++ q ++ List.drop (2 + 256) (k ++ List.drop 2 z)) = k ++ q := List.take_left' (by simp [hk, hq])
  rw [e2, List.drop_of_length_le (by simp [hk, hq, hz]), List.append_nil, List.append_assoc]

theorem run_build_found (c : Int × Int) (p : List (BitVec 8)) (r : Bool) (hp : p.length = 256) (w : World) : (Instr.build 96 #[(0, .agg (copyL c).toArray), (1, .agg (pageCells p)), (2, .bool r)]).run Try.prog w = .ok (.agg (fndCells c p r)) w := by
  have hz : zeroFnd.size = 259 := zeroFnd_size
  have e0 : (Value.agg (copyL c).toArray).cells = (copyL c).toArray := rfl
  have e2 : (Value.agg (pageCells p)).cells = (p.map B).toArray := by
    show pageCells p = _
    rw [pageCells_def]
  have e3 : (Value.bool r).cells = #[.bool r] := rfl
  have hc : (copyL c).length = 2 := rfl
  have hfill : Instr.fill ((#[((0 : Nat), (2 : Nat)), (2, 256), (258, 1)] : Array (Nat × Nat))[·]?) zeroFnd [(0, Value.agg (copyL c).toArray), (1, .agg (pageCells p)), (2, .bool r)] = some (fndCells c p r) := by
    rw [fill_step _ _ _ _ _ 0 2 rfl (by rw [e0]; simp [hc]) (by omega), fill_step _ _ _ _ _ 2 256 rfl (by rw [e2]; simp [hp]) (by rw [e0]; simp [hz, hc]), fill_step _ _ _ _ _ 258 1 rfl (by rw [e3]; rfl) (by rw [e0, e2]; simp [hz, hc, hp]), Instr.fill]
    rw [e0, e2, e3]
    congr 1
    unfold fndCells fndL
    have h1 : zeroFnd.toList.length = 259 := by rw [Array.length_toList, hz]
    have h2 : (p.map B).length = 256 := by simp [hp]
    generalize p.map B = q at *
    generalize copyL c = k at *
    generalize zeroFnd.toList = z at *
    congr 1
    exact three_parts k q z _ hc h2 h1
  have hu := Try.underlying96
  unfold Instr.build
  rw [Sem.run_bind, zero_found]
  simp only [Result.andThen_ok, Sem.run_bind, run_underlying hu]
  have hm : (Array.mapM (fun (f : Field) => do
      let s ← Go.sizeOf f.type
      pure (f.offset, s)) #[{ name := "at", type := 55, offset := 0, embedded := false, tag := "", pkgPath := "suture/fetch", byteOffset := 0 }, { name := "page", type := 32, offset := 2, embedded := false, tag := "", pkgPath := "suture/fetch", byteOffset := 16 }, { name := "right", type := 4, offset := 258, embedded := false, tag := "", pkgPath := "suture/fetch", byteOffset := 272 }] : Sem (Array (Nat × Nat))).run Try.prog w = .ok #[(0, 2), (2, 256), (258, 1)] w := by kernel_rfl
  rw [hm]
  simp only [Result.andThen_ok]
  rw [show (Value.agg zeroFnd).cells = zeroFnd from rfl, hfill]
  rfl
theorem ex_build_found {o : Oper} {a : Act} {w : World} {x y z : Operand} {c : Int × Int} {p : List (BitVec 8)} {r : Bool} (ho : o.op = .build 96 #[(0, x), (1, y), (2, z)]) (hx : a.eval x = .agg (copyL c).toArray) (hy : a.eval y = .agg (pageCells p)) (hz : a.eval z = .bool r) (hp : p.length = 256) :
    (execOp a.eval o).run Try.prog w = .ok (.value (.agg (fndCells c p r))) w := by
  unfold execOp
  simp only [ho, List.map_toArray, List.map_cons, List.map_nil, hx, hy, hz, Sem.run_bind, run_build_found c p r hp, Result.andThen_ok]
  rfl
end Suture
