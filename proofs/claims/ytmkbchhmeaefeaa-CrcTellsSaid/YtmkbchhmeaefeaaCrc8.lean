/-
  suturelaw01.CrcBurst: what is changed within eight bytes that stand side by side changes the sum.
  Conditions: none.
-/
import Derived.Test.YtmkbchhmeaefeaaCrc7
import Derived.Test.YtmkbchhmeaefeaaPoly2
import Derived.Test.YtmkbchhmeaefeaaArr2
import Derived.OwnWalk
namespace Suture
open Go Go.RowKit Go.Proofs

theorem infoU8 : (Try.prog.info? 5).map (fun i => (i.zero, i.size, i.bytes)) = some (some (.int .u8 0), 1, 1) := by kernel_rfl
theorem oneU8 : IsOne Try.prog 5 := ⟨⟨_, Try.underlying5, rfl⟩, by kernel_rfl⟩

@[go_sem] theorem binOp_neq_B0 (t : TypeId) (a : BitVec 8) : binOp .neq t (B a) (.int .u8 0) = pure (.bool (a != 0#8)) := binOp_neq_B t a 0#8

theorem turn_of (n : Nat) (x : Int) (hn : n ≤ 3000) (h0 : 0 < n) : ∃ k : Nat, k < n ∧ (wrap64 (x.tmod n + n)).tmod n = k := by
  have h := tmod_range x n h0
  have e : wrap64 (x.tmod n + n) = x.tmod n + n := by unfold wrap64; omega
  rw [e]
  have h2 := tmod_range (x.tmod n + n) n h0
  have h3 : 0 ≤ (x.tmod n + n).tmod n := Int.tmod_nonneg _ (by omega)
  exact ⟨((x.tmod n + n).tmod n).toNat, by omega, by omega⟩

set_option maxHeartbeats 1000000 in
set_option maxRecDepth 100000 in
theorem crcBurst_out (a : Option Addr) (n cap : Nat) (at0 : Int) (ys : Array Value) (w : World) (hn : 3000 < n ∨ n = 0) (hb : n ≤ 9223372036854775807) :
    Calls Try.prog 4 #[.slice a n cap, .int .i64 at0, .agg ys] w fun e w' => e = .returned (.bool true) ∧ Agrees All w w' := by
  rcases hn with hn | rfl
  all_goals
    go_enter Try.func4, Try.ntmps4
    go_wp2_with (go_at_call 12; refine (wakes01_calls _).mono ?_; rintro e w2 ⟨rfl, hag2⟩)
    go_ret
    exact ⟨rfl, ((Agrees.refl _ w).alloc _).trans hag2⟩

/-- the world of a burst, i bytes in -/
structure BurstW (w : World) (g n k : Nat) (bs y : List (BitVec 8)) (ys : Array Value) (i : Nat) (W : World) : Prop where
  ag : Agrees All w W
  arr : W.heap[w.heap.size]? = some (.cells ys 28 (0, 0))
  lo : w.heap.size + 1 ≤ g
  row : ∃ cur, W.heap[g]? = some (.cells cur 5 (0, 0)) ∧ cur.toList.take n = (burst bs y k i).map B

theorem BurstW.drew {w : World} {g n k : Nat} {bs y : List (BitVec 8)} {ys : Array Value} {i : Nat} {W : World} (h : BurstW w g n k bs y ys i W) : BurstW w g n k bs y ys i W.drew :=
  ⟨h.ag.drew, h.arr, h.lo, h.row⟩
theorem BurstW.fro {w : World} {g n k : Nat} {bs y : List (BitVec 8)} {ys : Array Value} {i : Nat} {W : World} (h : BurstW w g n k bs y ys i W) (j : Nat) : W.frozen? ⟨g, j, none⟩ = false := by
  obtain ⟨cur, h1, h2⟩ := h.row
  exact frozen_of_row W g _ cur _ h1
theorem BurstW.fro1 {w : World} {g n k : Nat} {bs y : List (BitVec 8)} {ys : Array Value} {i : Nat} {W : World} (h : BurstW w g n k bs y ys i W) (j : Nat) : W.frozen? ⟨w.heap.size, j, none⟩ = false :=
  frozen_of_row W _ _ ys _ h.arr
theorem BurstW.cell {w : World} {g n k : Nat} {bs y : List (BitVec 8)} {ys : Array Value} {i : Nat} {W : World} (h : BurstW w g n k bs y ys i W) (hb : bs.length = n) (hi : i ≤ y.length) (hk : k + i < n) :
    W.cell? ⟨g, 0 + (k + i) * 1, none⟩ = some (B (bs.getD (k + i) 0)) := by
  obtain ⟨cur, h1, h2⟩ := h.row
  rw [Nat.zero_add, Nat.mul_one, cell_of_row W g _ cur _ _ h1, ← Array.getElem?_toList]
  have e : (cur.toList.take n)[k + i]? = cur.toList[k + i]? := List.getElem?_take_of_lt hk
  rw [← e, h2, List.getElem?_map, burst_get bs y k i hi (by omega), List.getD_eq_getElem?_getD, List.getElem?_eq_getElem (by omega)]; rfl
theorem BurstW.arrCell {w : World} {g n k : Nat} {bs y : List (BitVec 8)} {ys : Array Value} {i : Nat} {W : World} (h : BurstW w g n k bs y ys i W) (hys : ∀ i, i < 8 → ys[i]? = some (B (y.getD i 0))) (h8 : i < 8) :
    W.cell? ⟨w.heap.size, 0 + i * 1, none⟩ = some (B (y.getD i 0)) := by
  rw [Nat.zero_add, Nat.mul_one, cell_of_row W _ _ ys _ _ h.arr, hys i h8]
theorem BurstW.step {w : World} {g n k : Nat} {bs y : List (BitVec 8)} {ys : Array Value} {i : Nat} {W : World} (h : BurstW w g n k bs y ys i W) (hb : bs.length = n) (hi : i < y.length) (hk : k + i < n) :
    BurstW w g n k bs y ys (i + 1) (W.setCell ⟨g, 0 + (k + i) * 1, none⟩ (B (bs.getD (k + i) 0 ^^^ y.getD i 0))) := by
  obtain ⟨cur, h1, h2⟩ := h.row
  have hlo := h.lo
  refine ⟨h.ag.setCell (.inr (by show w.heap.size ≤ g; omega)) _, ?_, h.lo, ?_⟩
  · rw [heap_setCell_other _ _ _ _ (by show w.heap.size ≠ g; omega)]; exact h.arr
  · refine ⟨_, heap_setCell_same W g _ cur _ _ h1, ?_⟩
    rw [Nat.zero_add, Nat.mul_one, Array.toList_setIfInBounds, List.take_set, h2, ← List.map_set, burst_succ bs y k i hi (by omega)]
theorem BurstW.bytes {w : World} {g n k cap2 : Nat} {bs y : List (BitVec 8)} {ys : Array Value} {i : Nat} {W : World} (h : BurstW w g n k bs y ys i W) (hb : bs.length = n) (hi : i ≤ y.length) (hk : k + i ≤ n) (hc : n ≤ cap2) (hn : n ≤ 3000) :
    BytesAt All W (.slice (some ⟨g, 0, none⟩) n cap2) (burst bs y k i) := by
  obtain ⟨cur, h1, h2⟩ := h.row
  refine ⟨_, n, cap2, rfl, by rw [List.length_map, burst_length bs y k i hi (by omega), hb], by omega, fun j x hx => ⟨g, 0, rfl, trivial, (Array.getElem?_eq_some_iff.1 h1).1, ?_⟩⟩
  rw [Nat.zero_add, cell_of_row W g _ cur _ _ h1, ← Array.getElem?_toList]
  rw [← h2, List.getElem?_take] at hx
  split at hx
  · exact hx
  · cases hx

def vBurst (g n cap2 hb k i : Nat) (x z : BitVec 8) : Nat → Value → Prop
  | 0, v => v = .slice (some ⟨g, 0, none⟩) n cap2
  | 1, v => v = .int .i64 (k : Int)
  | 2, v => v = .int .i64 (i : Int)
  | 3, v => v = .int .i64 ((k : Int) + (i : Int))
  | 4, v => v = .slice (some ⟨g, 0, none⟩) n cap2
  | 5, v => v = .int .i64 (k : Int)
  | 6, v => v = .int .i64 (i : Int)
  | 7, v => v = .int .i64 ((k : Int) + (i : Int))
  | 8, v => v = .pointer (some ⟨g, 0 + (k + i) * 1, none⟩)
  | 9, v => v = B x
  | 10, v => v = .int .i64 (i : Int)
  | 11, v => v = .pointer (some ⟨hb, 0 + i * 1, none⟩)
  | 12, v => v = B z
  | 13, v => v = B (x ^^^ z)
  | 14, v => v = .pointer (some ⟨g, 0 + (k + i) * 1, none⟩)
  | 15, v => v = undef
  | _, _ => True

def wiBurst (W0 W1 : World) (L : Nat → Bool) (_ : Nat → Value) (w : World) : Prop := (L 15 = false → W0 = w) ∧ (L 15 = true → W1 = w)

set_option maxHeartbeats 4000000 in
set_option maxRecDepth 100000 in
theorem crcBurst_in (a : Option Addr) (n cap : Nat) (bs : List (BitVec 8)) (at0 : Int) (ys : Array Value) (y : List (BitVec 8)) (w : World) (hn : n ≤ 3000) (h0 : 0 < n) (hv : BytesAt All w (.slice a n cap) bs)
    (hy : y.length = 8) (hys : ∀ i, i < 8 → ys[i]? = some (B (y.getD i 0))) :
    Calls Try.prog 4 #[.slice a n cap, .int .i64 at0, .agg ys] w fun e w' => e = .returned (.bool true) ∧ Agrees All w w' := by
  obtain ⟨k, hk, hat⟩ := turn_of n at0 hn h0
  have hcap := hv.cap
  obtain ⟨b0, off0, rfl, _, hb0, _⟩ := hv.at.2.2 0 h0
  go_enter Try.func4, Try.ntmps4
  have hsz1 : (w.alloc (.cells ys 28)).heap.size = w.heap.size + 1 := by simp
  have hA1 : Agrees All w ((w.alloc (.cells ys 28)).alloc (.cells #[] 5)) := ((Agrees.refl _ w).alloc _).alloc _
  have hne : ((n : Int) == 0) = false := by simp; omega
  obtain ⟨i0, hi, hz0, hz1, hz2⟩ := info_parts infoU8
  go_wp2_with (at_builtin; refine wpList_append_own _ rfl _ _ 22 rfl (w.heap.size + 1) 5 i0 (.int .u8 0) 1 1 Try.underlying22 hi hz0 hz1 hz2 rfl (by decide) (.slice (some ⟨w.heap.size + 1, 0, none⟩) 0 0) 0 [] rfl ?own ⟨b0, off0, none⟩ n cap (bs.map B) rfl (by simp [hv.len]) ?news ?one ?h63 ?hby ?hba ?_)
  case own => exact ⟨rfl, .inr ⟨w.heap.size + 1, 0, #[], rfl, Nat.le_refl _, by rw [← hsz1]; exact World.alloc_heap_new _ _, Nat.le_refl _, Nat.zero_le _, rfl, rfl⟩⟩
  case news =>
    intro j u hu
    have hj : j < n := by have := (List.getElem?_eq_some_iff.1 hu).1; simp [hv.len] at this; exact this
    obtain ⟨b, off, hb, _, _, hc⟩ := hv.at.2.2 j hj
    cases hb
    rw [addr_add, (hA1.cell (p := ⟨b0, off0 + j, none⟩) hb0 trivial), hc]
    rw [List.getElem?_map] at hu
    rw [← hu, List.getD_eq_getElem?_getD, List.getElem?_eq_getElem (by rw [hv.len]; exact hj)]; rfl
  case one => intro u hu; obtain ⟨x, _, rfl⟩ := List.mem_map.1 hu; rfl
  case h63 => simp only [maxLen]; omega
  case hby => omega
  case hba => simp
  intro v' w1 hown hgrow _
  obtain ⟨hg2, hg3, hg4, hg5, hg6⟩ := hgrow
  obtain ⟨g, cap2, cur, rfl, hlo, hgo, hc2, _, hcs, htk⟩ := (hown.2.resolve_left (fun h => by cases h.1; omega))
  have hB0 : BurstW w g n k bs y ys 0 w1 := by
    refine ⟨hA1.trans' (S := fun b => b < w.heap.size) ⟨hg2, hg3, hg4, hg5, fun b hb hlt => hg6 b hb (by simp [Value.ownBlock]; omega)⟩ (fun b hb _ => hb), ?_, hlo, cur, hgo, ?_⟩
    · rw [hg6 _ (by simp; omega) (by simp [Value.ownBlock])]
      rw [heap_alloc_old _ _ (by simp)]
      exact World.alloc_heap_new _ _
    · rw [burst_zero]; simpa using htk
  have HB := Lib.hid hB0
  have HN := Lib.hid hn
  clear hg2 hg3 hg4 hg5 hg6 hgo hcs htk hA1 hsz1 hown hi hz0 hz1 hz2 hat cur hB0
  go_wp2_with fail
  go_loopw [8, 9] (fun c ii wr => ∃ i : Nat, i ≤ 8 ∧ k + i ≤ n ∧ ii = .int .i64 i ∧ c = .bool (burstChanged y i) ∧ RowKit.Hid (BurstW w g n k bs y ys i wr)) (fun _ ii _ => 8 - (intOf ii).toNat)
  case atStart => exact ⟨0, by omega, by omega, rfl, rfl, HB⟩
  case round =>
    obtain ⟨i, hi8', hki', rfl, rfl, HW⟩ := hrel
    have hlen := hv.len
    by_cases hlt : i < 8 ∧ k + i < n
    · obtain ⟨hi8, hki⟩ := hlt
      have hcell := HW.out.drew.cell hlen (by omega) hki
      have hcellb := HW.out.drew.arrCell hys hi8
      have hfro := HW.out.drew.fro (0 + (k + i) * 1)
      have HS := Lib.hid (HW.out.drew.step hlen (by omega) hki)
      have HCH := Lib.hid (burstChanged_succ y i (by omega))
      have HL := Lib.hid hlen
      clear hlen
      generalize hx : bs.getD (k + i) 0 = x at *
      generalize hz : y.getD i 0 = z at *
      have HZ := Lib.hid hz
      clear hx hz
      have HC := Lib.hid hcell
      have HCB := Lib.hid hcellb
      have HF := Lib.hid hfro
      clear hcell hcellb hfro
      go_wp2_with fail
      have hcell := HC.out
      have hcellb := HCB.out
      have hfro := HF.out
      obtain ⟨W0, hW0⟩ : ∃ W0, wr.drew = W0 := ⟨_, rfl⟩
      rw [hW0] at hcell hcellb hfro
      refine wp_region_plan (by kernel_rfl) ?hok (by kernel_rfl) (vBurst g n cap2 w.heap.size k i x z) (wiBurst W0 (W0.setCell ⟨g, 0 + (k + i) * 1, none⟩ (B (x ^^^ z)))) ?h0 ?steps ?hend
      case hok => kernel_rfl
      case h0 => exact fun vals => ⟨fun _ => hW0.symm, fun h => (by cases h)⟩
      case steps =>
        generalize hhb : w.heap.size = hb at *
        have hok : True := trivial
        intro q hq
        have hq' : q < 16 := hq
        match q, hq' with
        | 0, _ =>
          refine steps_of rfl ?_
          intro L aq wq hL hd st wi
          have o7 := st.outside (t := 7) rfl (v := .slice (some ⟨g, 0, none⟩) n cap2) rfl
          exact opTo_val (v := .slice (some ⟨g, 0, none⟩) n cap2) rfl (ex_move (.inl rfl) (eval_tmp o7)) ⟨(fun h => by cases h), rfl, wi⟩
        | 1, _ =>
          refine steps_of rfl ?_
          intro L aq wq hL hd st wi
          have o1 := st.outside (t := 1) rfl (v := .int .i64 (k : Int)) rfl
          exact opTo_val (v := .int .i64 (k : Int)) rfl (ex_move (.inl rfl) (eval_tmp o1)) ⟨(fun h => by cases h), rfl, wi⟩
        | 2, _ =>
          refine steps_of rfl ?_
          intro L aq wq hL hd st wi
          have o9 := st.outside (t := 9) rfl (v := .int .i64 (i : Int)) rfl
          exact opTo_val (v := .int .i64 (i : Int)) rfl (ex_move (.inl rfl) (eval_tmp o9)) ⟨(fun h => by cases h), rfl, wi⟩
        | 3, _ =>
          refine steps_of rfl ?_
          intro L aq wq hL hd st wi
          obtain ⟨u1, e1, V1⟩ := st.val 1 _ _ rfl rfl (hd ⟨1, .data⟩ (by simp) rfl)
          obtain rfl : u1 = .int .i64 (k : Int) := V1
          obtain ⟨u2, e2, V2⟩ := st.val 2 _ _ rfl rfl (hd ⟨2, .data⟩ (by simp) rfl)
          obtain rfl : u2 = .int .i64 (i : Int) := V2
          exact opTo_val (v := .int .i64 ((k : Int) + (i : Int))) rfl (by have hk2 := hki; have hi2 := hi8; have hn2 := hn; simp [go_sem, Act.eval, e1, e2]; rw [IntKind.wrap_i64]; omega) ⟨(fun h => by cases h), rfl, wi⟩
        | 4, _ =>
          refine steps_of rfl ?_
          intro L aq wq hL hd st wi
          have o7 := st.outside (t := 7) rfl (v := .slice (some ⟨g, 0, none⟩) n cap2) rfl
          exact opTo_val (v := .slice (some ⟨g, 0, none⟩) n cap2) rfl (ex_move (.inl rfl) (eval_tmp o7)) ⟨(fun h => by cases h), rfl, wi⟩
        | 5, _ =>
          refine steps_of rfl ?_
          intro L aq wq hL hd st wi
          have o1 := st.outside (t := 1) rfl (v := .int .i64 (k : Int)) rfl
          exact opTo_val (v := .int .i64 (k : Int)) rfl (ex_move (.inl rfl) (eval_tmp o1)) ⟨(fun h => by cases h), rfl, wi⟩
        | 6, _ =>
          refine steps_of rfl ?_
          intro L aq wq hL hd st wi
          have o9 := st.outside (t := 9) rfl (v := .int .i64 (i : Int)) rfl
          exact opTo_val (v := .int .i64 (i : Int)) rfl (ex_move (.inl rfl) (eval_tmp o9)) ⟨(fun h => by cases h), rfl, wi⟩
        | 7, _ =>
          refine steps_of rfl ?_
          intro L aq wq hL hd st wi
          obtain ⟨u5, e5, V5⟩ := st.val 5 _ _ rfl rfl (hd ⟨5, .data⟩ (by simp) rfl)
          obtain rfl : u5 = .int .i64 (k : Int) := V5
          obtain ⟨u6, e6, V6⟩ := st.val 6 _ _ rfl rfl (hd ⟨6, .data⟩ (by simp) rfl)
          obtain rfl : u6 = .int .i64 (i : Int) := V6
          exact opTo_val (v := .int .i64 ((k : Int) + (i : Int))) rfl (by have hk2 := hki; have hi2 := hi8; have hn2 := hn; simp [go_sem, Act.eval, e5, e6]; rw [IntKind.wrap_i64]; omega) ⟨(fun h => by cases h), rfl, wi⟩
        | 8, _ =>
          refine steps_of rfl ?_
          intro L aq wq hL hd st wi
          obtain ⟨u4, e4, V4⟩ := st.val 4 _ _ rfl rfl (hd ⟨4, .data⟩ (by simp) rfl)
          obtain rfl : u4 = .slice (some ⟨g, 0, none⟩) n cap2 := V4
          obtain ⟨u7, e7, V7⟩ := st.val 7 _ _ rfl rfl (hd ⟨7, .data⟩ (by simp) rfl)
          obtain rfl : u7 = .int .i64 ((k : Int) + (i : Int)) := V7
          exact opTo_val (v := .pointer (some ⟨g, 0 + (k + i) * 1, none⟩)) rfl (ex_idx rfl Try.underlying22 (by kernel_rfl) g 0 n cap2 (k + i) (eval_tmp e4) (by rw [eval_tmp e7]; simp) hki) ⟨(fun h => by cases h), rfl, wi⟩
        | 9, _ =>
          refine steps_of rfl ?_
          intro L aq wq hL hd st wi
          obtain ⟨u8, e8, V8⟩ := st.val 8 _ _ rfl rfl (hd ⟨8, .data⟩ (by simp) rfl)
          obtain rfl : u8 = .pointer (some ⟨g, 0 + (k + i) * 1, none⟩) := V8
          have h15 : L 15 = false := by
            cases h : L 15
            · rfl
            · have := st.closed 15 _ rfl h ⟨9, .phase⟩ (by simp) rfl
              rw [hL] at this; cases this
          refine opTo_val (v := B x) rfl (ex_load1 rfl oneU8 (eval_tmp e8) ?_) ⟨(fun h => by cases h), rfl, wi⟩
          rw [← wi.1 h15]; exact hcell
        | 10, _ =>
          refine steps_of rfl ?_
          intro L aq wq hL hd st wi
          have o9 := st.outside (t := 9) rfl (v := .int .i64 (i : Int)) rfl
          exact opTo_val (v := .int .i64 (i : Int)) rfl (ex_move (.inl rfl) (eval_tmp o9)) ⟨(fun h => by cases h), rfl, wi⟩
        | 11, _ =>
          refine steps_of rfl ?_
          intro L aq wq hL hd st wi
          have o5 := st.outside (t := 5) rfl (v := .pointer (some ⟨hb, 0, none⟩)) rfl
          obtain ⟨u10, e10, V10⟩ := st.val 10 _ _ rfl rfl (hd ⟨10, .data⟩ (by simp) rfl)
          obtain rfl : u10 = .int .i64 (i : Int) := V10
          exact opTo_val (v := .pointer (some ⟨hb, 0 + i * 1, none⟩)) rfl (ex_idxArr rfl Try.underlying28 (by kernel_rfl) hb 0 i (eval_tmp o5) (eval_tmp e10) hi8) ⟨(fun h => by cases h), rfl, wi⟩
        | 12, _ =>
          refine steps_of rfl ?_
          intro L aq wq hL hd st wi
          obtain ⟨u11, e11, V11⟩ := st.val 11 _ _ rfl rfl (hd ⟨11, .data⟩ (by simp) rfl)
          obtain rfl : u11 = .pointer (some ⟨hb, 0 + i * 1, none⟩) := V11
          have h15 : L 15 = false := by
            cases h : L 15
            · rfl
            · have := st.closed 15 _ rfl h ⟨12, .phase⟩ (by simp) rfl
              rw [hL] at this; cases this
          refine opTo_val (v := B z) rfl (ex_load1 rfl oneU8 (eval_tmp e11) ?_) ⟨(fun h => by cases h), rfl, wi⟩
          rw [← wi.1 h15]; exact hcellb
        | 13, _ =>
          refine steps_of rfl ?_
          intro L aq wq hL hd st wi
          obtain ⟨u9, e9, V9⟩ := st.val 9 _ _ rfl rfl (hd ⟨9, .data⟩ (by simp) rfl)
          obtain rfl : u9 = B x := V9
          obtain ⟨u12, e12, V12⟩ := st.val 12 _ _ rfl rfl (hd ⟨12, .data⟩ (by simp) rfl)
          obtain rfl : u12 = B z := V12
          exact opTo_val (v := B (x ^^^ z)) rfl (by simp [go_sem, Act.eval, e9, e12]) ⟨(fun h => by cases h), rfl, wi⟩
        | 14, _ =>
          refine steps_of rfl ?_
          intro L aq wq hL hd st wi
          obtain ⟨u0, e0, V0⟩ := st.val 0 _ _ rfl rfl (hd ⟨0, .data⟩ (by simp) rfl)
          obtain rfl : u0 = .slice (some ⟨g, 0, none⟩) n cap2 := V0
          obtain ⟨u3, e3, V3⟩ := st.val 3 _ _ rfl rfl (hd ⟨3, .data⟩ (by simp) rfl)
          obtain rfl : u3 = .int .i64 ((k : Int) + (i : Int)) := V3
          exact opTo_val (v := .pointer (some ⟨g, 0 + (k + i) * 1, none⟩)) rfl (ex_idx rfl Try.underlying22 (by kernel_rfl) g 0 n cap2 (k + i) (eval_tmp e0) (by rw [eval_tmp e3]; simp) hki) ⟨(fun h => by cases h), rfl, wi⟩
        | 15, _ =>
          refine steps_of rfl ?_
          intro L aq wq hL hd st wi
          obtain ⟨u14, e14, V14⟩ := st.val 14 _ _ rfl rfl (hd ⟨14, .data⟩ (by simp) rfl)
          obtain rfl : u14 = .pointer (some ⟨g, 0 + (k + i) * 1, none⟩) := V14
          obtain ⟨u13, e13, V13⟩ := st.val 13 _ _ rfl rfl (hd ⟨13, .data⟩ (by simp) rfl)
          obtain rfl : u13 = B (x ^^^ z) := V13
          have e := wi.1 hL
          subst e
          refine opTo_skip rfl (ex_store1 rfl oneU8 (eval_tmp e14) (eval_tmp e13) hcell hfro rfl) ⟨fun _ => rfl, rfl, ?_, ?_⟩
          · intro h; simp [setL] at h
          · intro _; rfl
        | (q + 16), h => omega
      case hend =>
        intro vals w' hV hW
        have hw' := hW.2 rfl
        have x0 : vals 0 = .slice (some ⟨g, 0, none⟩) n cap2 := hV 0 _ _ rfl rfl
        have x1 : vals 1 = .int .i64 (k : Int) := hV 1 _ _ rfl rfl
        have x2 : vals 2 = .int .i64 (i : Int) := hV 2 _ _ rfl rfl
        have x3 : vals 3 = .int .i64 ((k : Int) + (i : Int)) := hV 3 _ _ rfl rfl
        have x4 : vals 4 = .slice (some ⟨g, 0, none⟩) n cap2 := hV 4 _ _ rfl rfl
        have x5 : vals 5 = .int .i64 (k : Int) := hV 5 _ _ rfl rfl
        have x6 : vals 6 = .int .i64 (i : Int) := hV 6 _ _ rfl rfl
        have x7 : vals 7 = .int .i64 ((k : Int) + (i : Int)) := hV 7 _ _ rfl rfl
        have x8 : vals 8 = .pointer (some ⟨g, 0 + (k + i) * 1, none⟩) := hV 8 _ _ rfl rfl
        have x9 : vals 9 = B x := hV 9 _ _ rfl rfl
        have x10 : vals 10 = .int .i64 (i : Int) := hV 10 _ _ rfl rfl
        have x11 : vals 11 = .pointer (some ⟨w.heap.size, 0 + i * 1, none⟩) := hV 11 _ _ rfl rfl
        have x12 : vals 12 = B z := hV 12 _ _ rfl rfl
        have x13 : vals 13 = B (x ^^^ z) := hV 13 _ _ rfl rfl
        have x14 : vals 14 = .pointer (some ⟨g, 0 + (k + i) * 1, none⟩) := hV 14 _ _ rfl rfl
        simp only [putAll, Act.put, List.setIfInBounds_toArray, List.set_cons_succ, List.set_cons_zero, x0, x1, x2, x3, x4, x5, x6, x7, x8, x9, x10, x11, x12, x13, x14]
        clear hV hW x0 x1 x2 x3 x4 x5 x6 x7 x8 x9 x10 x11 x12 x13 x14
        clear hcell hcellb hfro HC HCB HF
        rw [hW0, hw'] at HS
        clear hw' hW0
        have hz3 : w'.cell? ⟨w.heap.size, i, none⟩ = some (B z) := by
          rw [cell_of_row _ _ _ _ _ _ HS.out.arr, hys i hi8, HZ.out]
        go_wp2_with fail
        all_goals
          refine ⟨⟨i + 1, by omega, by omega, by simp, ?_, HS⟩, by simp [intOf]; omega⟩
          rw [HCH.out]
          simp_all
    · have hi9 : i ≤ y.length := by omega
      have hbt : BytesAt All wr (.slice (some ⟨g, 0, none⟩) n cap2) (burst bs y k i) := HW.out.bytes hlen hi9 hki' hc2 HN.out
      have HS := Lib.hid (sum_burst_ne bs y k i hi9 hi8' (by rw [hlen]; exact hki'))
      have HV := Lib.hid hv
      have HT := Lib.hid hbt
      clear hv hbt hlen
      go_wp2_with fail
      all_goals
        refine (sum_one wr (some ⟨g, 0, none⟩) n cap2 _ _ HT.out).mono ?_
        rintro e w2 ⟨rfl, hag2⟩
        have HA2 := Lib.hid (HW.out.ag.trans hag2)
        clear hag2
        go_wp2_with fail
        refine (sum_one w2 (some ⟨b0, off0, none⟩) n cap bs _ (BytesAt.agrees HV.out HA2.out fun _ h => h)).mono ?_
        rintro e w3 ⟨rfl, hag3⟩
        have HA3 := Lib.hid (HA2.out.trans hag3)
        clear hag3
        have hfin : ((sum (burst bs y k i) != sum bs) == burstChanged y i) = true := by rw [HS.out]; simp
        go_wp2_with (go_at_call 12; refine (wakes01_calls _).mono ?_; rintro e w4 ⟨rfl, hag4⟩)
        go_ret
        exact ⟨rfl, HA3.out.trans hag4⟩

theorem crcBurst_calls (a : Option Addr) (n cap : Nat) (bs : List (BitVec 8)) (at0 : Int) (ys : Array Value) (y : List (BitVec 8)) (w : World) (hv : BytesAt All w (.slice a n cap) bs)
    (hy : y.length = 8) (hys : ∀ i, i < 8 → ys[i]? = some (B (y.getD i 0))) :
    Calls Try.prog 4 #[.slice a n cap, .int .i64 at0, .agg ys] w fun e w' => e = .returned (.bool true) ∧ Agrees All w w' := by
  by_cases h : n ≤ 3000 ∧ 0 < n
  · exact crcBurst_in a n cap bs at0 ys y w h.1 h.2 hv hy hys
  · exact crcBurst_out a n cap at0 ys w (by omega) hv.at.2.1
end Suture
