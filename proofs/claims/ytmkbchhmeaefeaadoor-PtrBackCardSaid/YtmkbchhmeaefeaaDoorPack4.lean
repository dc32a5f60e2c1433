/-
  NUMBERS TAKEN: pack.Take.
  Conditions: none beyond the slices' own readings.
-/
import Derived.Test.YtmkbchhmeaefeaaDoorPack3
import Derived.Test.YtmkbchhmeaefeaaDoorLeNum
import Derived.Test.YtmkbchhmeaefeaaDoorPtr5
namespace Suture
open Go Go.RowKit Go.Proofs
attribute [local go_sem] Oper.semAt_some binOp_shl_U8 binOp_or_U

def vTake (nn : BitVec 64) (a : Option Addr) (n cap m : Nat) : Nat → Value → Prop
  | 0, val => val = U nn
  | 1, val => val = .slice a n cap
  | 2, val => val = .int .i64 (m : Int)
  | 3, val => val = .slice (slA a m cap) (n - m) (cap - m)
  | 4, val => val = undef
  | 5, val => val = .slice (slA a m cap) (n - m) (cap - m)
  | 6, val => val = .int .i64 0
  | _, _ => True

theorem results_c1t2 {P : Program} {fn : Func} {p u v : Tmp} {ty : TypeId} (h : fn.results = #[.cell p ty, .tmp u, .tmp v]) (tmps : Array Value) {W : World} {b : Nat} {x : Value} (hp : tmps.getD p undef = .pointer (some ⟨b, 0, none⟩)) (hA : IsOne P ty)
    (hc : W.cell? ⟨b, 0, none⟩ = some x) : (results fn tmps).run P W = .ok (.tuple #[x, tmps.getD u undef, tmps.getD v undef]) W := by
  have hp' : tmps[p]?.getD undef = .pointer (some ⟨b, 0, none⟩) := by simpa using hp
  simp [results, h, hp', asAddr, run_loadVar_one hA hc]
/-- the world of pack.Take, the last k bytes taken -/
structure TakeW (w : World) (l : List (BitVec 8)) (k : Nat) (W : World) : Prop where
  ag : Agrees All w W
  row : W.heap[w.heap.size]? = some (.cells #[U (leNum (l.drop (l.length - k)))] 25 (0, 0))

set_option maxHeartbeats 2000000 in
set_option maxRecDepth 100000 in
theorem packTake_calls (a : Option Addr) (n cap : Nat) (bs : List (BitVec 8)) (m : Nat) (width : Int) (hm : (m : Int) = max (min width 8) 1) (hmn : m ≤ n) (w : World) (hv : BytesAt All w (.slice a n cap) bs) :
    Calls Tryd.prog 18 #[.slice a n cap, .int .i64 width] w fun e w' =>
      e = .returned (.tuple #[U (leNum (bs.take m)), .slice (slA a m cap) (n - m) (cap - m), .int .i64 0]) ∧ Agrees All w w' := by
  refine (callsIn_wide (n := 0)).1 (callsIn_of_wp_marks Tryd.func18 rfl trivial (wpIn_wide.2 ?_) rfl)
  simp only [Tryd.ntmps18, List.size_toArray, List.length_cons, List.length_nil, Nat.reduceAdd, Nat.reduceSub, Array.replicate_succ, Array.replicate_zero, List.push_toArray, List.append_toArray, List.nil_append, List.cons_append]
  have hcap := hv.cap
  have hlen := hv.len
  have HV := Lib.hid hv
  have HL := Lib.hid hlen
  have HM := Lib.hid hm
  have hm8 : m ≤ 8 := by omega
  clear hv hlen hm
  go_wp2_with (first | (go_at_call 25; refine (wide_calls width m HM.out _).mono ?_; rintro e w' ⟨rfl, rfl⟩) | (refine wpList_val rfl (ex_slice rfl Tryd.underlying28 (by kernel_rfl) a n cap 0 m rfl (.inr ⟨rfl, rfl⟩) (.inl rfl) (by omega) (by omega)) ?_) | (go_at_call 26; refine (backward_calls _ _ _ _).mono ?_; rintro e w' ⟨rfl, rfl⟩))
  obtain ⟨W2, hW2⟩ : ∃ W2, (w.alloc (.cells #[.int .u64 0] 25)).alloc (.cells #[.slice (slA a 0 cap) m cap] 28) = W2 := ⟨_, rfl⟩
  have hs2 : W2.heap.size = w.heap.size + 2 := by rw [← hW2]; simp
  have hA2 : Agrees All w W2 := by rw [← hW2]; exact ((Agrees.refl All w).alloc _).alloc _
  have hrow2 : W2.heap[w.heap.size]? = some (.cells #[U 0#64] 25 (0, 0)) := by rw [← hW2, heap_alloc_old _ _ (by simp)]; exact World.alloc_heap_new w _
  have hbox : W2.heap[w.heap.size + 1]? = some (.cells #[.slice (slA a 0 cap) m cap] 28 (0, 0)) := by
    rw [← hW2]; have := World.alloc_heap_new (w.alloc (.cells #[.int .u64 0] 25)) (.cells #[.slice (slA a 0 cap) m cap] 28); rwa [World.size_alloc] at this
  have hbs : BytesAt (fun b => b < W2.heap.size ∧ b ≠ w.heap.size) W2 (.slice (slA a 0 cap) m cap) (bs.take m) := by
    have h1 := BytesAt.slice (BytesAt.bound HV.out) 0 m (by omega) hmn
    simp only [List.drop_zero, Nat.sub_zero] at h1
    exact (BytesAt.agrees h1 hA2 (fun _ _ => trivial)).mono (fun b hb => ⟨by omega, by omega⟩)
  have hl : (bs.take m).length = m := by rw [List.length_take, HL.out]; omega
  have hT0 : TakeW w (bs.take m) 0 W2 := ⟨hA2, by rw [hl, Nat.sub_zero, List.drop_of_length_le (by omega)]; exact hrow2⟩
  rw [hW2]
  generalize hlb : bs.take m = lb at *
  have HT := Lib.hid hT0
  have HLBE := Lib.hid hlb
  have HLB := Lib.hid hl
  clear hT0 hrow2 hA2 hW2 hl hlb
  have hT : ∀ k W3 W4, TakeW w lb k W3 → Agrees (fun b => (b = w.heap.size) ∨ b < w.heap.size) W3 W4 → TakeW w lb k W4 := fun k W3 W4 h g => by
    have h1 := (Array.getElem?_eq_some_iff.1 h.row).1
    exact ⟨h.ag.trans' g (fun b hb _ => .inr hb), (g.block _ h1 (.inl rfl)).trans h.row⟩
  refine wp_rangeFunc_iter rfl (Go.Proofs.enters_of Tryd.func31 (by kernel_rfl) rfl) (backward1_iter (fun b => b < W2.heap.size ∧ b ≠ w.heap.size) w.heap.size W2 (w.heap.size + 1) _ m cap lb hbox ⟨by omega, by omega⟩ hbs (fun b hb => hb.1))
    (Agrees.refl _ _) (fun b hb => hb.1) (by omega) (fun _ => rfl)
    (fun b => b = w.heap.size) (fun b hb => ⟨fun h => h.2 hb, by omega⟩)
    (fun k C W => C = (fun b => b = w.heap.size) ∧ TakeW w lb k W)
    (fun _ _ _ _ => False) ?stabI ?stabX ⟨rfl, HT.out⟩
    (fun k => { tmps := #[.slice a n cap, .int .i64 (m : Int), undef, undef, .pointer (some ⟨w.heap.size, 0, none⟩), .slice none 0 0, .int .i64 0, undef, B (lb.getD (m - 1 - k) 0), .int .i64 width, .int .i64 (m : Int), .slice a n cap, .int .i64 (n : Int), .int .i64 (m : Int), .bool false, undef, .slice a n cap, .int .i64 (m : Int), .slice (slA a 0 cap) m cap, .func (.func 31) #[] #[.pointer (some ⟨w.heap.size + 1, 0, none⟩)], .int .i64 ((m - 1 - k : Nat) : Int), B (lb.getD (m - 1 - k) 0), undef, undef, undef, undef, undef, undef, undef, undef, undef], defers := [] })
    ?assign ?body ?done ?stop
  case stabI =>
    rintro k C W W' ⟨rfl, h⟩ hag
    exact ⟨rfl, hT _ _ _ h hag⟩
  case stabX => exact fun _ _ _ _ _ h _ => h
  case assign =>
    intro l k W K hK
    generalize lb.getD (m - 1 - k) 0 = av at *
    gi_wp2
    exact hK
  case body =>
    rintro l k C W hk ⟨rfl, hI⟩ hCW hsz
    have hst := leNum_drop lb (m - 1 - k) (by rw [HLB.out]; omega)
    have hrow := hI.row
    rw [HLB.out, show m - k = m - 1 - k + 1 by omega] at hrow
    have HLast := Lib.hid (show lb.length - (k + 1) = m - 1 - k by rw [HLB.out]; omega)
    generalize lb.getD (m - 1 - k) 0 = x at *
    generalize leNum (lb.drop (m - 1 - k + 1)) = ln at *
    have d1 : W.cell? ⟨w.heap.size, 0, none⟩ = some (U ln) := cell_of_row W _ 0 _ _ _ hrow
    have d1f : W.frozen? ⟨w.heap.size, 0, none⟩ = false := frozen_of_row W _ 0 _ _ hrow
    have HST := Lib.hid hst
    have HR := Lib.hid hrow
    have HAG := Lib.hid hI.ag
    clear hst hrow hI hbs hbox hT
    gi_wp2
    refine ⟨(Agrees.refl _ W).setCell (.inl (fun h => h rfl)) _, _, ⟨rfl, HAG.out.setCell (.inr (Nat.le_refl _)) _, ?_⟩, fun b hb => ⟨by have := hCW b hb; simpa [World.setCell] using this, .inl hb⟩⟩
    rw [HLast.out, HST.out]
    exact heap_setCell_same W _ 0 _ _ _ HR.out
  case done =>
    rintro D C W hD ⟨rfl, h⟩ hK hCD
    have hrow1 := h.row
    rw [HLB.out, Nat.sub_self, List.drop_zero] at hrow1
    have HAG := Lib.hid h.ag
    have HK := Lib.hid hK
    have HDn := Lib.hid (show w.heap.size + 2 ≤ D by omega)
    have HR1 := Lib.hid hrow1
    clear h hK hCD hrow1 hbs hbox hT
    go_wp2_with fail
    obtain ⟨W0, hW0⟩ : ∃ W0, W.drew = W0 := ⟨_, rfl⟩
    have hrow : W0.heap[w.heap.size]? = some (.cells #[U (leNum lb)] 25 (0, 0)) := by rw [← hW0]; exact HR1.out
    have HAG0 : RowKit.Hid (Agrees All w W0) := by rw [← hW0]; exact HAG.out.drew
    have HK0 : RowKit.Hid (W0.heap[D]? = some (.deferred (some []))) := by rw [← hW0]; exact HK.out
    refine wp_region_plan (by kernel_rfl) ?hok (by kernel_rfl) (vTake (leNum lb) a n cap m) (fun _ _ W => W0 = W) ?h0 (fun i hi => ?steps) ?hend
    case hok => kernel_rfl
    case h0 => exact fun vals => hW0.symm
    case steps =>
      generalize w.heap.size = pb at *
      generalize leNum lb = nn at *
      have hi' : i < 7 := hi
      match i, hi' with
      | 0, _ =>
        refine steps_of rfl ?_
        intro L aq wq hL hd st wi
        have o4 := st.outside (t := 4) rfl (v := .pointer (some ⟨pb, 0, none⟩)) rfl
        exact opTo_val (v := U nn) rfl (ex_load1 rfl oneU64 (eval_tmp o4) (by rw [← wi]; exact cell_of_row W0 _ 0 _ _ _ hrow)) ⟨(fun h => by cases h), rfl, wi⟩
      | 1, _ =>
        refine steps_of rfl ?_
        intro L aq wq hL hd st wi
        have o0 := st.outside (t := 0) rfl (v := .slice a n cap) rfl
        exact opTo_val (v := .slice a n cap) rfl (ex_move (.inl rfl) (eval_tmp o0)) ⟨(fun h => by cases h), rfl, wi⟩
      | 2, _ =>
        refine steps_of rfl ?_
        intro L aq wq hL hd st wi
        have o1 := st.outside (t := 1) rfl (v := .int .i64 (m : Int)) rfl
        exact opTo_val (v := .int .i64 (m : Int)) rfl (ex_move (.inl rfl) (eval_tmp o1)) ⟨(fun h => by cases h), rfl, wi⟩
      | 3, _ =>
        refine steps_of rfl ?_
        intro L aq wq hL hd st wi
        obtain ⟨u1, e1, V1⟩ := st.val 1 _ _ rfl rfl (hd ⟨1, .data⟩ (by simp) rfl)
        obtain rfl : .slice a n cap = u1 := V1.symm
        obtain ⟨u2, e2, V2⟩ := st.val 2 _ _ rfl rfl (hd ⟨2, .data⟩ (by simp) rfl)
        obtain rfl : .int .i64 (m : Int) = u2 := V2.symm
        exact opTo_val (v := .slice (slA a m cap) (n - m) (cap - m)) rfl (ex_slice rfl Tryd.underlying28 (by kernel_rfl) a n cap m n (eval_tmp e1) (.inl (by simp [Act.eval, e2])) (.inr ⟨rfl, rfl⟩) (by omega) (by omega)) ⟨(fun h => by cases h), rfl, wi⟩
      | 4, _ =>
        refine steps_of rfl ?_
        intro L aq wq hL hd st wi
        have o4 := st.outside (t := 4) rfl (v := .pointer (some ⟨pb, 0, none⟩)) rfl
        obtain ⟨u0, e0, V0⟩ := st.val 0 _ _ rfl rfl (hd ⟨0, .data⟩ (by simp) rfl)
        obtain rfl : U nn = u0 := V0.symm
        refine opTo_skip rfl (ex_store1 rfl oneU64 (eval_tmp o4) (eval_tmp e0) (v0 := U nn) (by rw [← wi]; exact cell_of_row W0 _ 0 _ _ _ hrow) (by rw [← wi]; exact frozen_of_row W0 _ 0 _ _ hrow) rfl) ⟨fun _ => rfl, rfl, ?_⟩
        rw [← wi]; exact (setCell_self hrow).symm
      | 5, _ =>
        refine steps_of rfl ?_
        intro L aq wq hL hd st wi
        obtain ⟨u3, e3, V3⟩ := st.val 3 _ _ rfl rfl (hd ⟨3, .data⟩ (by simp) rfl)
        obtain rfl : .slice (slA a m cap) (n - m) (cap - m) = u3 := V3.symm
        exact opTo_val (v := .slice (slA a m cap) (n - m) (cap - m)) rfl (ex_move (.inr rfl) (eval_tmp e3)) ⟨(fun h => by cases h), rfl, wi⟩
      | 6, _ =>
        refine steps_of rfl ?_
        intro L aq wq hL hd st wi
        exact opTo_val (v := .int .i64 0) rfl (ex_move (.inr rfl) rfl) ⟨(fun h => by cases h), rfl, wi⟩
      | (i + 7), h => omega
    case hend =>
      intro vals w' hV hW
      subst hW
      have x5 : vals 5 = .slice (slA a m cap) (n - m) (cap - m) := hV 5 _ _ rfl rfl
      have x6 : vals 6 = .int .i64 0 := hV 6 _ _ rfl rfl
      simp only [putAll, Act.put, List.setIfInBounds_toArray, List.set_cons_succ, List.set_cons_zero, x5, x6]
      clear hV
      go_wp2_with fail
      have hDn := HDn.out
      refine ⟨by simp, .inl ⟨_, _, rfl, run_takeDeferred HK0.out, ?_⟩⟩
      refine ⟨_, results_c1t2 rfl _ (b := w.heap.size) rfl oneU64 (cell_of_row _ _ 0 _ _ _ ((World.putObj_heap_other (by omega)).trans hrow)), ?_⟩
      exact ⟨by rw [HLBE.out]; rfl, HAG0.out.putObj (.inr (by omega)) _⟩
  case stop =>
    rintro D k c C W _ _ h
    exact h.elim
end Suture
