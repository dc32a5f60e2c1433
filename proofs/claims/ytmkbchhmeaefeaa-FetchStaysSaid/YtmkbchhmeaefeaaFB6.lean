/-
  A LOOK'S END: the bad copies mended; what comes behind the copies are seen.
  Conditions: none beyond the pair's own reading.
-/
import Derived.Test.YtmkbchhmeaefeaaFB5
import Derived.Scope
namespace Suture
open Go Go.RowKit Go.Proofs
attribute [local go_sem] Oper.semAt_some

/-- a pair's lists are not longer than 9000 -/
structure Pair.low (P : Pair) : Prop where
  p0 : P.d0.pages.length ≤ 9000
  c0 : P.d0.cache.length ≤ 9000
  b0 : P.d0.bad.length ≤ 9000
  p1 : P.d1.pages.length ≤ 9000
  c1 : P.d1.cache.length ≤ 9000
  b1 : P.d1.bad.length ≤ 9000
theorem PairAt.small {R : Nat → Prop} {w : World} {v : PV} {P : Pair} (h : PairAt R w v P) (l : P.low) : v.small :=
  ⟨⟨by rw [← h.d0.pn]; exact l.p0, by rw [← h.d0.cn]; exact l.c0, by rw [← h.d0.bn]; exact l.b0⟩, ⟨by rw [← h.d1.pn]; exact l.p1, by rw [← h.d1.cn]; exact l.c1, by rw [← h.d1.bn]; exact l.b1⟩⟩
theorem putE_len {P : Pair} {i : Nat} {a : Int} (h : P.putE i a = 0) : (P.disk i).cache.length < 2000 := by
  unfold Pair.putE at h
  split at h
  · unfold Disk.writeE at h
    split at h
    · split at h
      · cases h
      · omega
    · rename_i h1 h2; exact (h2 h).elim
  · cases h
theorem Pair.low.put {P : Pair} (l : P.low) (i : Nat) (a : Int) (p : List (BitVec 8)) : (P.put i a p).low := by
  unfold Pair.put
  split
  · rename_i h
    have hl := putE_len h
    unfold Pair.set Pair.disk at *
    split
    · rename_i hi
      rw [if_pos hi] at hl
      exact ⟨l.p0, by simp [Disk.put]; omega, by simpa [Disk.put] using l.b0, l.p1, l.c1, l.b1⟩
    · rename_i hi
      rw [if_neg hi] at hl
      exact ⟨l.p0, l.c0, l.b0, l.p1, by simp [Disk.put]; omega, by simpa [Disk.put] using l.b1⟩
  · exact ⟨l.p0, l.c0, l.b0, l.p1, l.c1, l.b1⟩

/-- what a look hands back -/
def LookTo (R0 : Nat → Prop) (w : World) (r : List (BitVec 8) × Pair × Tal × Int) (e : Ending) (w' : World) : Prop :=
  ∃ v' : PV, e = .returned (.tuple #[.agg (pageCells r.1), .agg v'.cells, .agg r.2.2.1.cells, .int .i64 r.2.2.2]) ∧ PairAt (fun b => R0 b ∨ w.heap.size ≤ b) w' v' r.2.1 ∧ Agrees All w w'

/-- what a look answers, the copies seen -/
def lookEnd (pg : List (BitVec 8)) (bads : List (Int × Int)) (P : Pair) (tr tb : Int) (sm : Bool) : List (BitVec 8) × Pair × Tal × Int :=
  if sm then
    if (mendAll pg bads P 0).2.2 = 0 then (pg, (mendAll pg bads P 0).1, ⟨tr, tb, (mendAll pg bads P 0).2.1⟩, 0)
    else (noPage, (mendAll pg bads P 0).1, ⟨tr, tb, (mendAll pg bads P 0).2.1⟩, (mendAll pg bads P 0).2.2)
  else (pg, P, ⟨tr, tb, 0⟩, 50)

/-- the boxes of a look, while it mends -/
structure EndW (R0 : Nat → Prop) (w : World) (B3 B6 B7 B8 D : Nat) (v : PV) (P : Pair) (pg : List (BitVec 8)) (t : Tal) (W : World) : Prop where
  ag : Agrees All w W
  r3 : W.heap[B3]? = some (.cells v.cells 40 (0, 0))
  r6 : W.heap[B6]? = some (.cells (pageCells pg) 32 (0, 0))
  r7 : W.heap[B7]? = some (.cells PV.zero.cells 40 (0, 0))
  r8 : W.heap[B8]? = some (.cells t.cells 57 (0, 0))
  rD : W.heap[D]? = some (.deferred (some []))
  pair : PairAt (fun b => (R0 b ∧ b < w.heap.size) ∨ D < b) W v P
theorem EndW.mono {R0 : Nat → Prop} {w : World} {B3 B6 B7 B8 D : Nat} {v : PV} {P : Pair} {pg : List (BitVec 8)} {t : Tal} {W W' : World} (h : EndW R0 w B3 B6 B7 B8 D v P pg t W) (g : Agrees All W W') : EndW R0 w B3 B6 B7 B8 D v P pg t W' := by
  have k : ∀ {b : Nat} {o : Obj}, W.heap[b]? = some o → W'.heap[b]? = some o := fun hb => (g.block _ (Array.getElem?_eq_some_iff.1 hb).1 trivial).trans hb
  exact ⟨h.ag.trans g, k h.r3, k h.r6, k h.r7, k h.r8, k h.rD, h.pair.agrees g fun _ _ => trivial⟩

theorem list_row {W : World} {bl : Nat} {l : Value} {bads : List (Int × Int)} (h : W.ownsRow (bl + 1) 55 2 l bads.length (bads.map copyL).flatten) :
    ∃ la cap, l = .slice la bads.length cap ∧ ∀ i, i < bads.length → ∃ g cur, la = some ⟨g, 0, none⟩ ∧ bl < g ∧ W.heap[g]? = some (.cells cur 55 (0, 0)) ∧ ∀ j, j < 2 → cur[i * 2 + j]? = (copyL (bads.getD i (0, 0))).toArray[j]? := by
  obtain ⟨hxs, hcase⟩ := h
  rcases hcase with ⟨rfl, hn⟩ | ⟨g, cap, cur, rfl, hg0, hgr, hcap, hmax, hcs, hct⟩
  · exact ⟨none, 0, by rw [hn], fun i hi => by omega⟩
  · refine ⟨_, cap, rfl, fun i hi => ⟨g, cur, rfl, by omega, hgr, fun j hj => ?_⟩⟩
    rw [← Array.getElem?_toList, ← Array.getElem?_toList, List.toList_toArray, ← flat_two bads i hi j hj, ← hct, List.getElem?_take_of_lt (by omega)]
theorem drop_getD {α : Type} (d : α) (l : List α) (i : Nat) (h : i < l.length) : l.drop i = l.getD i d :: l.drop (i + 1) := by
  rw [List.drop_eq_getElem_cons h, List.getD_eq_getElem?_getD, List.getElem?_eq_getElem h]; rfl

/-- a way out, to the caller -/
theorem out_ret {R0 : Nat → Prop} {w W W' : World} {B3 B6 B7 B8 D : Nat} {v : PV} {P : Pair} {pg pg' : List (BitVec 8)} {t : Tal} {e : Int} {a' : Act} (h : EndW R0 w B3 B6 B7 B8 D v P pg t W) (hb : w.heap.size ≤ B3 ∧ B3 < B6 ∧ B6 < B7 ∧ B7 < B8 ∧ B8 < D)
    (hl : pg'.length = 256) (hd : a'.defers = [{ target := .collected D, args := #[] }]) (h6 : a'.tmps[6]? = some (.pointer (some ⟨B6, 0, none⟩))) (h7 : a'.tmps[7]? = some (.pointer (some ⟨B7, 0, none⟩))) (h8 : a'.tmps[8]? = some (.pointer (some ⟨B8, 0, none⟩))) (h9 : a'.tmps[9]? = some (.int .i64 e))
    (ho : OutW W B6 B7 (pageCells pg') v.cells W') : bodyPostM Fence.wide 0 Try.prog Try.f44 (LookTo R0 w (pg', P, t, e)) .ret a' W' := by
  have hD : W'.heap[D]? = some (.deferred (some [])) := (ho.ag.block _ (Array.getElem?_eq_some_iff.1 h.rD).1 (by omega)).trans h.rD
  have h8' : W'.heap[B8]? = some (.cells t.cells 57 (0, 0)) := (ho.ag.block _ (Array.getElem?_eq_some_iff.1 h.r8).1 (by omega)).trans h.r8
  have hA : Agrees All w W' := by
    refine (h.ag.weak (R := fun b => b < w.heap.size)).trans' ho.ag (fun b hb _ => by omega) |>.mono fun b hb _ => hb
  have hP : PairAt (fun b => (R0 b ∧ b < w.heap.size) ∨ D < b) W' v P := h.pair.agrees ho.ag (fun b hb => by omega)
  have put : ∀ {b : Nat} {o : Obj}, b ≠ D → W'.heap[b]? = some o → (W'.putObj D (.deferred none)).heap[b]? = some o := fun hne hb => (World.putObj_heap_other hne).trans hb
  show LeavesInM Fence.wide 0 Try.prog Try.f44 a'.tmps _ a'.defers .returning W'
  rw [hd]
  refine ⟨by simp, .inl ⟨_, _, rfl, run_takeDeferred hD, ?_⟩⟩
  refine ⟨_, results_a3t1 rfl _ (b := B6) (c := B7) (d := B8) (getD_of h6) (getD_of h7) (getD_of h8) isAgg_page (v1 := pageCells pg') (by rw [pageCells_size]; exact hl) (fun j _ => by rw [Nat.zero_add]; exact cell_of_row _ _ _ _ _ _ (put (by omega) ho.r6)) isAgg_pair (v2 := v.cells) rfl (v.load (put (by omega) ho.r7))
    isAgg_tally (v3 := t.cells) rfl (fun j _ => by rw [Nat.zero_add]; exact cell_of_row _ _ _ _ _ _ (put (by omega) h8')) (getD_of h9), ?_⟩
  refine ⟨v, rfl, ?_, hA.putObj (.inr (by omega)) _⟩
  exact (hP.agrees ((Agrees.refl (fun b => b ≠ D) W').putObj (.inl (fun h => h rfl)) _) (fun b hb => by omega)).mono fun b hb => hb.elim (fun h => .inl h.1) (fun h => .inr (by omega))

set_option maxHeartbeats 4000000 in
set_option maxRecDepth 100000 in
theorem look_end : ∀ c, cR (cR (cR (cR (cR (cS (cR Try.f44.body)))))) = some c → ∀ (R0 : Nat → Prop) (w W : World) (B3 B6 B7 B8 bl bs D : Nat) (v : PV) (P : Pair) (pg : List (BitVec 8)) (tr tb : Int) (sm : Bool) (bads : List (Int × Int)) (l : Value) (u : Nat → Value),
    w.heap.size ≤ B3 ∧ B3 < B6 ∧ B6 < B7 ∧ B7 < B8 ∧ B8 < bl ∧ bl < bs ∧ bs < D → EndW R0 w B3 B6 B7 B8 D v P pg ⟨tr, tb, 0⟩ W → P.low → pg.length = 256 → bads.length ≤ 4 → (∀ c ∈ bads, (c.1 = 0 ∨ c.1 = 1) ∧ in64 c.2) →
    W.heap[bl]? = some (.cells #[l] 52 (0, 0)) → W.heap[bs]? = some (.cells #[.bool sm] 4 (0, 0)) → W.ownsRow (bl + 1) 55 2 l bads.length (bads.map copyL).flatten →
    c.wp Try.prog (bodyPostM Fence.wide 0 Try.prog Try.f44 (LookTo R0 w (lookEnd pg bads P tr tb sm))) { tmps := (u 0 :: u 1 :: u 2 :: (.pointer (some ⟨B3, 0, none⟩) : Value) :: u 4 :: u 5 :: (.pointer (some ⟨B6, 0, none⟩) : Value) :: (.pointer (some ⟨B7, 0, none⟩) : Value) :: (.pointer (some ⟨B8, 0, none⟩) : Value) :: u 9 :: u 10 :: (.pointer (some ⟨bl, 0, none⟩) : Value) :: (.pointer (some ⟨bs, 0, none⟩) : Value) :: u 13 :: u 14 :: u 15 :: u 16 :: u 17 :: u 18 :: u 19 :: u 20 :: u 21 :: u 22 :: u 23 :: u 24 :: u 25 :: u 26 :: u 27 :: u 28 :: u 29 :: u 30 :: u 31 :: u 32 :: u 33 :: u 34 :: u 35 :: u 36 :: u 37 :: u 38 :: u 39 :: u 40 :: u 41 :: u 42 :: u 43 :: u 44 :: u 45 :: u 46 :: u 47 :: u 48 :: u 49 :: u 50 :: u 51 :: u 52 :: u 53 :: u 54 :: u 55 :: u 56 :: u 57 :: u 58 :: u 59 :: u 60 :: u 61 :: u 62 :: u 63 :: u 64 :: u 65 :: u 66 :: u 67 :: u 68 :: u 69 :: u 70 :: u 71 :: u 72 :: u 73 :: u 74 :: u 75 :: u 76 :: u 77 :: u 78 :: u 79 :: u 80 :: u 81 :: u 82 :: u 83 :: u 84 :: u 85 :: u 86 :: u 87 :: []).toArray, defers := [{ target := .collected D, args := #[] }] } W := by
  intro c hc
  have hd := part_eq hc rfl
  subst hd
  clear hc
  intro R0 w W B3 B6 B7 B8 bl bs D v P pg tr tb sm bads l u hb hE hlow hlp hb4 hbm hbl hbs hown
  have c12 : W.cell? ⟨bs, 0, none⟩ = some (.bool sm) := cell_of_row _ _ _ _ _ _ hbs
  have c11 : W.cell? ⟨bl, 0, none⟩ = some l := cell_of_row _ _ _ _ _ _ hbl
  have HE := Lib.hid hE
  have HB := Lib.hid hb
  have HOWN := Lib.hid hown
  have HLOW := Lib.hid hlow
  have HBM := Lib.hid hbm
  have HBL := Lib.hid hbl
  have HBS := Lib.hid hbs
  clear hE hown hlow hbm hbl hbs hb
  cases sm
  · go_wp2_with fail
    have hE := HE.out
    refine way16 _ rfl _ _ _ B3 B6 B7 B8 v pg ⟨tr, tb, 0⟩ rfl rfl rfl rfl rfl hlp hE.r3 hE.r6 hE.r7 hE.r8 (by have := HB.out; omega) (by have := HB.out; omega) (by have := HB.out; omega) (by have := HB.out; omega) (by have := HB.out; omega) ?_
    intro a' W' hd h6 h7 h8 h9 ho
    go_wp2_with fail
    exact out_ret hE (by have := HB.out; omega) hlp hd h6 h7 h8 h9 ho
  · obtain ⟨la, cap, rfl, hel⟩ := list_row HOWN.out
    have HEL := Lib.hid hel
    clear hel HOWN
    generalize hnb : bads.length = nb at *
    go_wp2_with (refine wpList_val rfl (ex_load1 (ty := 52) rfl oneTwos rfl c11) ?_)
    go_loopw [60] (fun vv wr => ∃ (i : Nat) (vi : PV) (Pi : Pair), i ≤ nb ∧ vv = .int .i64 i ∧ RowKit.Hid (EndW R0 w B3 B6 B7 B8 D vi Pi pg ⟨tr, tb, i⟩ wr ∧ Agrees (fun b => b ≠ B3 ∧ b ≠ B8) W wr ∧ Pi.low ∧ mendAll pg (bads.drop i) Pi i = mendAll pg bads P 0)) (fun vv _ => nb - (intOf vv).toNat)
    case atStart => exact ⟨0, v, P, by omega, rfl, HE.out, Agrees.refl _ _, HLOW.out, rfl⟩
    case round =>
      obtain ⟨i, vi, Pi, hi, rfl, HW⟩ := hrel
      obtain ⟨hE, hAW, hLo, hM⟩ := HW.out
      by_cases hlt : i < nb
      · obtain ⟨g, cur, rfl, hg, hgr, hcur⟩ := HEL.out i hlt
        have hB := HB.out
        have hgw := (hAW.block g (Array.getElem?_eq_some_iff.1 hgr).1 (by omega)).trans hgr
        have hmem : bads.getD i (0, 0) ∈ bads := by
          rw [List.getD_eq_getElem?_getD, List.getElem?_eq_getElem (by omega)]; exact List.getElem_mem _
        obtain ⟨hd, hin⟩ := HBM.out _ hmem
        rw [drop_getD (0, 0) bads i (by omega)] at hM
        generalize hcd : bads.getD i (0, 0) = cd at *
        obtain ⟨dk, at'⟩ := cd
        simp only at hd hin
        obtain ⟨d, rfl⟩ : ∃ d : Nat, dk = d := ⟨dk.toNat, by omega⟩
        have hd2 : d < 2 := by omega
        rw [mendAll] at hM
        simp only [Int.toNat_natCast] at hM
        have HL2 := Lib.hid (show ∀ j, j < 2 → wr.cell? ⟨g, i * 2 + j, none⟩ = (copyL ((d : Int), at')).toArray[j]? from fun j hj => by
          rw [cell_of_row _ _ _ _ _ _ hgw, hcur j hj])
        obtain ⟨W2, hW2⟩ : ∃ W2, (wr.alloc (.cells #[.int .i64 0, .int .i64 0] 55)).setRow wr.heap.size (copyL ((d : Int), at')).toArray = W2 := ⟨_, rfl⟩
        have hz := World.alloc_heap_new wr (.cells #[.int .i64 0, .int .i64 0] 55)
        have hA2 : Agrees All wr W2 := by rw [← hW2]; exact ((Agrees.refl _ _).alloc _).setRow (.inr (Nat.le_refl _)) _
        have hb2 : W2.heap[wr.heap.size]? = some (.cells (copyL ((d : Int), at')).toArray 55 (0, 0)) := by rw [← hW2]; exact setRow_heap _ _ _ _ _ _ hz
        have k0 : W2.cell? ⟨wr.heap.size, 0, none⟩ = some (.int .i64 (d : Int)) := by rw [cell_of_row _ _ _ _ _ _ hb2]; rfl
        have k1 : W2.cell? ⟨wr.heap.size, 1, none⟩ = some (.int .i64 at') := by rw [cell_of_row _ _ _ _ _ _ hb2]; rfl
        have hE2 := hE.mono hA2
        have HE2 := Lib.hid hE2
        have HPG := Lib.hid (show (pageCells pg).size = 256 by rw [pageCells_size, hlp])
        have hPut := mput_calls _ vi Pi d hd2 at' pg hlp hin W2 hE2.pair (hE2.pair.small hLo)
        have HPUT := Lib.hid hPut
        have HZ := Lib.hid hz
        have HAW2 := Lib.hid (hAW.trans hA2.weak)
        have HLO := Lib.hid hLo
        have HM := Lib.hid hM
        have hsz := (Array.getElem?_eq_some_iff.1 hE2.rD).1
        have HSZ := Lib.hid hsz
        clear hE hAW hLo hM hgr hcur hgw hmem hin hA2 hb2 hE2 hPut hz HE HEL HBM HBS HBL HLOW hB hd c12 c11 hcd HW hg hsz
        go_wp2_with (first
          | (refine wpList_val rfl (ex_load (ty := 55) rfl isAgg_two g (i * 2) rfl (copyL ((d : Int), at')).toArray rfl HL2.out) ?_)
          | (refine wpList_val rfl (ex_alloc rfl (.agg #[.int .i64 0, .int .i64 0]) (fun w => by kernel_rfl)) ?_; rw [show (Value.agg #[Value.int .i64 0, Value.int .i64 0]).cells = #[.int .i64 0, .int .i64 0] from rfl])
          | (refine wpList_unit rfl (ex_storeAll (ty := 55) rfl isAgg_two.2 wr.heap.size rfl (copyL ((d : Int), at')).toArray #[.int .i64 0, .int .i64 0] rfl rfl HZ.out rfl (by intro u hu; simp [copyL] at hu; rcases hu with rfl | rfl <;> rfl)) ?_; rw [hW2])
          | (refine wpList_val rfl (ex_load (ty := 40) rfl isAgg_pair B3 0 rfl vi.cells rfl (vi.load HE2.out.r3)) ?_)
          | (refine wpList_val rfl (ex_load (ty := 32) rfl isAgg_page B6 0 rfl (pageCells pg) HPG.out (fun j _ => by rw [Nat.zero_add]; exact cell_of_row _ _ _ _ _ _ HE2.out.r6)) ?_))
        refine HPUT.out.mono ?_
        rintro e W3 ⟨v', rfl, hh⟩
        have hP3 := hh.out.1
        have hag := hh.out.2
        have hE3 := HE2.out.mono hag
        have hP3' : PairAt (fun b => (R0 b ∧ b < w.heap.size) ∨ D < b) W3 v' (Pi.put d at' pg) := hP3.mono fun b hb => by
          rcases hb with hb | hb
          · exact hb
          · exact .inr (by have := HSZ.out; omega)
        have hEN : ∀ (m : Int) (W : World), Agrees (fun b => b ≠ B3 ∧ b ≠ B8) W3 W → W.heap[B3]? = some (.cells v'.cells 40 (0, 0)) → W.heap[B8]? = some (.cells (Tal.mk tr tb m).cells 57 (0, 0)) → EndW R0 w B3 B6 B7 B8 D v' (Pi.put d at' pg) pg ⟨tr, tb, m⟩ W := fun m W hg h3 h8 => by
          have hB := HB.out
          exact ⟨(hE3.ag.weak (R := fun b => b < w.heap.size)).trans' hg (fun b hb _ => by omega) |>.mono fun b hb _ => hb, h3, (hg.block _ (Array.getElem?_eq_some_iff.1 hE3.r6).1 (by omega)).trans hE3.r6, (hg.block _ (Array.getElem?_eq_some_iff.1 hE3.r7).1 (by omega)).trans hE3.r7, h8,
            (hg.block _ (Array.getElem?_eq_some_iff.1 hE3.rD).1 (by omega)).trans hE3.rD, hP3'.agrees hg fun b hb => by omega⟩
        obtain ⟨W4, hW4⟩ : ∃ W4, W3.setRow B3 v'.cells = W4 := ⟨_, rfl⟩
        have hr4 : W4.heap[B3]? = some (.cells v'.cells 40 (0, 0)) := by rw [← hW4]; exact setRow_heap _ _ _ _ _ _ hE3.r3
        have hg4 : Agrees (fun b => b ≠ B3) W3 W4 := by rw [← hW4]; exact (Agrees.refl _ _).setRow (.inl (fun h => h rfl)) _
        have h84 : W4.heap[B8]? = some (.cells (Tal.mk tr tb i).cells 57 (0, 0)) := (hg4.block _ (Array.getElem?_eq_some_iff.1 hE3.r8).1 (by have := HB.out; omega)).trans hE3.r8
        have hE4 := hEN i W4 (hg4.mono fun b _ hb => hb.1) hr4 h84
        have c82 : W4.cell? ⟨B8, 2, none⟩ = some (.int .i64 i) := by rw [cell_of_row _ _ _ _ _ _ h84]; rfl
        have f82 : W4.frozen? ⟨B8, 2, none⟩ = false := frozen_of_row _ _ _ _ _ h84
        have HR3 := Lib.hid hE3.r3
        have HE4 := Lib.hid hE4
        have HEN := Lib.hid hEN
        have HA4 := Lib.hid ((HAW2.out.trans hag.weak).trans (hg4.mono fun b _ hb => hb.1))
        have HG4 := Lib.hid hg4
        have H84 := Lib.hid h84
        have HR4 := Lib.hid hr4
        have hLP := Lib.hid (HLO.out.put d at' pg)
        have hwi : IntKind.i64.wrap ((i : Int) + 1) = (i : Int) + 1 := by rw [IntKind.wrap_i64]; omega
        clear hP3 hag hE3 hP3' hEN hr4 hg4 h84 hE4 HE2 HPUT HZ hW2 k0 k1 HL2 HAW2 HLO HSZ
        generalize hee : Pi.putE d at' = ee at *
        by_cases h0 : ee = 0
        · subst h0
          have hM := HM.out
          rw [if_pos rfl] at hM
          have HM := Lib.hid hM
          clear hM hee
          go_wp2_with (first
            | (refine wpList_unit rfl (ex_storeAll (ty := 40) rfl isAgg_pair.2 B3 rfl v'.cells vi.cells rfl rfl HR3.out rfl (PV.one _)) ?_; rw [hW4]))
          have hr8 : (W4.setCell ⟨B8, 2, none⟩ (.int .i64 ((i : Int) + 1))).heap[B8]? = some (.cells (Tal.mk tr tb ((i : Int) + 1)).cells 57 (0, 0)) := heap_setCell_same _ _ 2 _ _ _ H84.out
          have hg5 : Agrees (fun b => b ≠ B8) W4 (W4.setCell ⟨B8, 2, none⟩ (.int .i64 ((i : Int) + 1))) := (Agrees.refl _ _).setCell (.inl (fun h => h rfl)) _
          have hr3 := (hg5.block B3 (Array.getElem?_eq_some_iff.1 HR4.out).1 (by have := HB.out; omega)).trans HR4.out
          refine ⟨⟨i + 1, v', Pi.put d at' pg, by omega, by simp, Lib.hid ⟨?_, HA4.out.trans (hg5.mono fun b _ hb => hb.2), hLP.out, ?_⟩⟩, by simp [intOf]; omega⟩
          · rw [Int.natCast_add]
            exact HEN.out _ _ ((HG4.out.mono fun b _ hb => hb.1).trans (hg5.mono fun b _ hb => hb.2)) hr3 hr8
          · rw [Int.natCast_add]; exact HM.out
        · have hM := HM.out
          rw [if_neg h0] at hM
          have HM := Lib.hid hM
          clear hM hee
          go_wp2_with (first
            | (refine wpList_unit rfl (ex_storeAll (ty := 40) rfl isAgg_pair.2 B3 rfl v'.cells vi.cells rfl rfl HR3.out rfl (PV.one _)) ?_; rw [hW4]))
          have hE := HE4.out
          refine way22 _ rfl _ _ _ B3 B6 B7 B8 v' pg ⟨tr, tb, i⟩ ee rfl rfl rfl rfl rfl rfl hlp hE.r3 hE.r6 hE.r7 hE.r8 (by have := HB.out; omega) (by have := HB.out; omega) (by have := HB.out; omega) (by have := HB.out; omega) (by have := HB.out; omega) ?_
          intro a' W' hd h6 h7 h8 h9 ho
          go_wp2_with fail
          have hf := out_ret hE (by have := HB.out; omega) noPage_len hd h6 h7 h8 h9 ho
          unfold lookEnd
          rw [if_pos rfl, ← HM.out, if_neg h0]
          exact hf
      · obtain rfl : i = nb := by omega
        rw [List.drop_of_length_le (by omega), mendAll] at hM
        have HM := Lib.hid hM
        have HEI := Lib.hid hE
        clear hE hAW hLo hM
        go_wp2_with fail
        have hE := HEI.out
        refine way25 _ rfl _ _ _ B3 B6 B7 B8 vi pg ⟨tr, tb, i⟩ rfl rfl rfl rfl rfl hlp hE.r3 hE.r6 hE.r7 hE.r8 (by have := HB.out; omega) (by have := HB.out; omega) (by have := HB.out; omega) (by have := HB.out; omega) (by have := HB.out; omega) ?_
        intro a' W' hd h6 h7 h8 h9 ho
        go_wp2_with fail
        have hf := out_ret hE (by have := HB.out; omega) hlp hd h6 h7 h8 h9 ho
        unfold lookEnd
        rw [if_pos rfl, ← HM.out, if_pos rfl]
        exact hf
end Suture
/-
  A PAGE LOOKED UP: the walk of fetch.look.
  Conditions: none beyond the pair's own reading.
-/
namespace Suture
open Go Go.RowKit Go.Proofs
attribute [local go_sem] Oper.semAt_some

theorem zero_tally (w : World) : (zeroValue 57).run Try.prog w = .ok (.agg (Tal.mk 0 0 0).cells) w := by kernel_rfl
theorem row_old {W : World} {b : Nat} {o o' : Obj} (h : W.heap[b]? = some o) : (W.alloc o').heap[b]? = some o := (heap_alloc_old _ _ (Array.getElem?_eq_some_iff.1 h).1).trans h
theorem row_new {W : World} {n : Nat} (o : Obj) (h : W.heap.size = n) : (W.alloc o).heap[n]? = some o := by rw [← h]; exact World.alloc_heap_new W o
theorem rows6 (w : World) (o0 o1 o2 o3 o4 o5 : Obj) : ∃ W1 W2 W3 W4 W5 W6, w.alloc o0 = W1 ∧ W1.alloc o1 = W2 ∧ W2.alloc o2 = W3 ∧ W3.alloc o3 = W4 ∧ W4.alloc o4 = W5 ∧ W5.alloc o5 = W6 ∧
    W1.heap.size = w.heap.size + 1 ∧ W2.heap.size = w.heap.size + 1 + 1 ∧ W3.heap.size = w.heap.size + 1 + 1 + 1 ∧ W4.heap.size = w.heap.size + 1 + 1 + 1 + 1 ∧ W5.heap.size = w.heap.size + 1 + 1 + 1 + 1 + 1 ∧ W6.heap.size = w.heap.size + 1 + 1 + 1 + 1 + 1 + 1 ∧ Agrees All w W6 ∧
    W6.heap[w.heap.size]? = some o0 ∧ W6.heap[w.heap.size + 1]? = some o1 ∧ W6.heap[w.heap.size + 1 + 1]? = some o2 ∧ W6.heap[w.heap.size + 1 + 1 + 1]? = some o3 ∧ W6.heap[w.heap.size + 1 + 1 + 1 + 1]? = some o4 ∧ W6.heap[w.heap.size + 1 + 1 + 1 + 1 + 1]? = some o5 := by
  have h1 : (w.alloc o0).heap.size = w.heap.size + 1 := World.size_alloc _ _
  have h2 : ((w.alloc o0).alloc o1).heap.size = w.heap.size + 1 + 1 := by rw [World.size_alloc, h1]
  have h3 : (((w.alloc o0).alloc o1).alloc o2).heap.size = w.heap.size + 1 + 1 + 1 := by rw [World.size_alloc, h2]
  have h4 : ((((w.alloc o0).alloc o1).alloc o2).alloc o3).heap.size = w.heap.size + 1 + 1 + 1 + 1 := by rw [World.size_alloc, h3]
  have h5 : (((((w.alloc o0).alloc o1).alloc o2).alloc o3).alloc o4).heap.size = w.heap.size + 1 + 1 + 1 + 1 + 1 := by rw [World.size_alloc, h4]
  exact ⟨_, _, _, _, _, _, rfl, rfl, rfl, rfl, rfl, rfl, h1, h2, h3, h4, h5, by rw [World.size_alloc, h5], (((((((Agrees.refl _ w).alloc _).alloc _).alloc _).alloc _).alloc _).alloc _),
    row_old (row_old (row_old (row_old (row_old (row_new _ rfl))))), row_old (row_old (row_old (row_old (row_new _ h1)))), row_old (row_old (row_old (row_new _ h2))), row_old (row_old (row_new _ h3)), row_old (row_new _ h4), row_new _ h5⟩

/-! ### the plain side -/
theorem lookN_le (rt : Int × Int → Bool) (all : Bool) : ∀ l, lookN rt all l ≤ l.length
  | [] => Nat.le_refl _
  | c :: l => by
    unfold lookN
    split
    · simp
    · have := lookN_le rt all l; simp; omega
/-- a look that stops nowhere sees all -/
theorem lookN_done (rt : Int × Int → Bool) (all : Bool) : ∀ l, (all = false → l.any rt = false) → lookN rt all l = l.length
  | [], _ => rfl
  | c :: l, h => by
    unfold lookN
    have h1 : (rt c && !all) = false := by
      cases all
      · have := h rfl; simp at this; simp [this.1]
      · simp
    rw [h1]
    simp only [Bool.false_eq_true, if_false, List.length_cons]
    rw [lookN_done rt all l (fun e => by have := h e; simp at this ⊢; exact this.2)]
/-- a look that stops -/
theorem lookN_stop (rt : Int × Int → Bool) : ∀ (l : List (Int × Int)) (k : Nat), k < l.length → (l.take k).any rt = false → rt (l.getD k (0, 0)) = true → lookN rt false l = k + 1
  | [], k, h, _, _ => by simp at h
  | c :: l, 0, _, _, h => by unfold lookN; simp at h; simp [h]
  | c :: l, k + 1, h, h1, h2 => by
    simp at h1 h2
    unfold lookN
    rw [if_neg (by simp [h1.1])]
    rw [lookN_stop rt l k (by simpa using h) (by simpa using h1.2) (by simpa using h2)]

def Pair.badIn (P : Pair) (x : Ptr) (ys : List (Int × Int)) : List (Int × Int) := ys.filter fun c => !P.isRight x c
theorem look_of_seen {P : Pair} {x : Ptr} {all : Bool} {ys : List (Int × Int)} (h0 : P.asked x = 0) (hy : P.seen x all = ys) :
    P.look x all = lookEnd (P.pageIn x ys) (P.badIn x ys) P ys.length (P.badIn x ys).length (ys.any (P.isRight x)) := by
  unfold Pair.look
  rw [if_neg (by simp [h0])]
  unfold Pair.seenBad lookEnd
  rw [hy]
  dsimp only
  cases ha : ys.any (P.isRight x)
  · simp only [if_true, Bool.false_eq_true, if_false]
    have : P.pageIn x ys = noPage := by
      unfold Pair.pageIn
      rw [List.find?_eq_none.2 (by simpa using ha)]
    rw [this]; rfl
  · simp only [Bool.true_eq_false, if_false, if_true]
    rfl

theorem pageIn_none {P : Pair} {x : Ptr} {ys : List (Int × Int)} (h : ys.any (P.isRight x) = false) : P.pageIn x ys = noPage := by
  unfold Pair.pageIn
  rw [List.find?_eq_none.2 (by simpa using h)]
theorem pageIn_old {P : Pair} {x : Ptr} {ys : List (Int × Int)} (h : ys.any (P.isRight x) = true) (c : Int × Int) : P.pageIn x (ys ++ [c]) = P.pageIn x ys := by
  unfold Pair.pageIn
  rw [List.find?_append]
  obtain ⟨y, hy, hr⟩ := List.any_eq_true.1 h
  cases hf : ys.find? (P.isRight x) with
  | none => have := List.find?_eq_none.1 hf y hy; simp [hr] at this
  | some z => rfl
theorem pageIn_new {P : Pair} {x : Ptr} {ys : List (Int × Int)} (h : ys.any (P.isRight x) = false) {c : Int × Int} (hc : P.isRight x c = true) : P.pageIn x (ys ++ [c]) = P.has c := by
  unfold Pair.pageIn
  rw [List.find?_append, List.find?_eq_none.2 (by simpa using h)]
  simp [hc]
theorem pageIn_bad {P : Pair} {x : Ptr} {ys : List (Int × Int)} {c : Int × Int} (hc : P.isRight x c = false) : P.pageIn x (ys ++ [c]) = P.pageIn x ys := by
  cases h : ys.any (P.isRight x)
  · rw [pageIn_none h, pageIn_none (by simp at h ⊢; exact ⟨h, hc⟩)]
  · exact pageIn_old h c
theorem badIn_snoc (P : Pair) (x : Ptr) (ys : List (Int × Int)) (c : Int × Int) : P.badIn x (ys ++ [c]) = P.badIn x ys ++ (if P.isRight x c then [] else [c]) := by
  unfold Pair.badIn
  rw [List.filter_append, List.filter_cons, List.filter_nil]
  cases P.isRight x c <;> rfl
theorem pageIn_len {P : Pair} (x : Ptr) (ys : List (Int × Int)) (h : ∀ c, (P.has c).length = 256) : (P.pageIn x ys).length = 256 := by
  unfold Pair.pageIn
  split
  · exact h _
  · exact noPage_len

/-- the boxes of a look, the copies ys seen -/
structure SeenW (w : World) (n bl : Nat) (v : PV) (P : Pair) (x : Ptr) (all : Bool) (ys : List (Int × Int)) (W : World) (u : Value) : Prop where
  r3 : W.heap[n]? = some (.cells v.cells 40 (0, 0))
  r5 : W.heap[n + 1 + 1]? = some (.cells #[.bool all] 4 (0, 0))
  r6 : W.heap[n + 1 + 1 + 1]? = some (.cells (pageCells (P.pageIn x ys)) 32 (0, 0))
  r7 : W.heap[n + 1 + 1 + 1 + 1]? = some (.cells PV.zero.cells 40 (0, 0))
  r8 : W.heap[n + 1 + 1 + 1 + 1 + 1]? = some (.cells (Tal.mk ys.length (P.badIn x ys).length 0).cells 57 (0, 0))
  rs : W.heap[bl + 1]? = some (.cells #[.bool (ys.any (P.isRight x))] 4 (0, 0))
  ls : ListS All w bl 52 55 2 (P.badIn x ys).length ((P.badIn x ys).map copyL).flatten W u
def seenC (n bl : Nat) (u : Value) : Nat → Prop := fun b => b = n + 1 + 1 + 1 ∨ b = n + 1 + 1 + 1 + 1 + 1 ∨ b = bl ∨ b = bl + 1 ∨ u.ownBlock = some b
theorem SeenW.mono {w : World} {n bl : Nat} {v : PV} {P : Pair} {x : Ptr} {all : Bool} {ys : List (Int × Int)} {W W' : World} {u : Value} {S : Nat → Prop} (h : SeenW w n bl v P x all ys W u) (g : Agrees S W W') (hS : ∀ b, (seenC n bl u b ∨ b < bl) → S b) (hn : n + 1 + 1 + 1 + 1 + 1 + 1 ≤ bl) (hw : w.heap.size ≤ n) : SeenW w n bl v P x all ys W' u := by
  have k : ∀ {b : Nat} {o : Obj}, S b → W.heap[b]? = some o → W'.heap[b]? = some o := fun hs hb => (g.block _ (Array.getElem?_eq_some_iff.1 hb).1 hs).trans hb
  refine ⟨k (hS _ (.inr (by omega))) h.r3, k (hS _ (.inr (by omega))) h.r5, k (hS _ (.inr (by omega))) h.r6, k (hS _ (.inr (by omega))) h.r7, k (hS _ (.inr (by omega))) h.r8, k (hS _ (.inl (.inr (.inr (.inr (.inl rfl)))))) h.rs, h.ls.sta g fun b hb => hS b ?_⟩
  rcases hb with hb | hb | hb
  · exact .inl (.inr (.inr (.inl hb)))
  · exact .inl (.inr (.inr (.inr (.inr hb))))
  · exact .inr (by omega)
theorem own_ne {W : World} {b base : Nat} {e t : TypeId} {size n : Nat} {v : Value} {xs : List Value} {cs : Array Value} (h : W.ownsRow base e size v n xs) (hb : W.heap[b]? = some (.cells cs t (0, 0))) (hne : t ≠ e) : v.ownBlock ≠ some b := by
  intro he
  rcases h.2 with ⟨rfl, _⟩ | ⟨g, cap, cur, rfl, _, hg, _⟩
  · cases he
  · simp [Value.ownBlock] at he
    subst he
    rw [hb] at hg
    simp at hg
    exact hne hg.2
theorem own_neD {W : World} {b base : Nat} {e : TypeId} {size n : Nat} {v : Value} {xs : List Value} {l : Option (List Deferred)} (h : W.ownsRow base e size v n xs) (hb : W.heap[b]? = some (.deferred l)) : v.ownBlock ≠ some b := by
  intro he
  rcases h.2 with ⟨rfl, _⟩ | ⟨g, cap, cur, rfl, _, hg, _⟩
  · cases he
  · simp [Value.ownBlock] at he
    subst he
    rw [hb] at hg
    simp at hg

/-- ahead of the copy k; behind the one that stopped it -/
def lookI (w : World) (bl : Nat) (v : PV) (P : Pair) (x : Ptr) (all : Bool) (k : Nat) (C : Nat → Prop) (W : World) : Prop :=
  ∃ u, C = seenC w.heap.size bl u ∧ k ≤ (P.found x).length ∧ SeenW w w.heap.size bl v P x all ((P.found x).take k) W u ∧ (all = false → ((P.found x).take k).any (P.isRight x) = false)
def lookX (w : World) (bl : Nat) (v : PV) (P : Pair) (x : Ptr) (all : Bool) (c : Code) (k : Nat) (C : Nat → Prop) (W : World) : Prop :=
  ∃ u, c = .exit 0 ∧ C = seenC w.heap.size bl u ∧ SeenW w w.heap.size bl v P x all ((P.found x).take (k + 1)) W u ∧ (P.found x).take (k + 1) = P.seen x all

/-- a way out with nothing deferred -/
theorem out_ret0 {R0 : Nat → Prop} {w W W' : World} {B6 B7 B8 : Nat} {v : PV} {P : Pair} {pg' : List (BitVec 8)} {t : Tal} {e : Int} {a' : Act} (hA : Agrees All w W) (hP : PairAt (fun b => R0 b ∧ b < w.heap.size) W v P) (r8 : W.heap[B8]? = some (.cells t.cells 57 (0, 0))) (hb : w.heap.size ≤ B6 ∧ B6 < B7 ∧ B7 < B8)
    (hl : pg'.length = 256) (hd : a'.defers = []) (h6 : a'.tmps[6]? = some (.pointer (some ⟨B6, 0, none⟩))) (h7 : a'.tmps[7]? = some (.pointer (some ⟨B7, 0, none⟩))) (h8 : a'.tmps[8]? = some (.pointer (some ⟨B8, 0, none⟩))) (h9 : a'.tmps[9]? = some (.int .i64 e))
    (ho : OutW W B6 B7 (pageCells pg') v.cells W') : bodyPostM Fence.wide 0 Try.prog Try.f44 (LookTo R0 w (pg', P, t, e)) .ret a' W' := by
  have h8' : W'.heap[B8]? = some (.cells t.cells 57 (0, 0)) := (ho.ag.block _ (Array.getElem?_eq_some_iff.1 r8).1 (by omega)).trans r8
  have hA' : Agrees All w W' := (hA.weak (R := fun b => b < w.heap.size)).trans' ho.ag (fun b hb _ => by omega) |>.mono fun b hb _ => hb
  have hP' : PairAt (fun b => R0 b ∧ b < w.heap.size) W' v P := hP.agrees ho.ag (fun b hb => by omega)
  show LeavesInM Fence.wide 0 Try.prog Try.f44 a'.tmps _ a'.defers .returning W'
  rw [hd]
  exact ⟨_, results_a3t1 rfl _ (b := B6) (c := B7) (d := B8) (getD_of h6) (getD_of h7) (getD_of h8) isAgg_page (v1 := pageCells pg') (by rw [pageCells_size]; exact hl) (fun j _ => by rw [Nat.zero_add]; exact cell_of_row _ _ _ _ _ _ ho.r6) isAgg_pair (v2 := v.cells) rfl (v.load ho.r7)
    isAgg_tally (v3 := t.cells) rfl (fun j _ => by rw [Nat.zero_add]; exact cell_of_row _ _ _ _ _ _ h8') (getD_of h9), v, rfl, hP'.mono fun b hb => .inl hb.1, hA'⟩

set_option maxHeartbeats 4000000 in
set_option maxRecDepth 100000 in
theorem look_calls (R0 : Nat → Prop) (v : PV) (P : Pair) (x : Ptr) (all : Bool) (hx : x.ok) (w : World) (hv : PairAt R0 w v P) (hlow : P.low) :
    Calls Try.prog 44 #[.agg v.cells, .agg x.cells, .bool all] w (LookTo R0 w (P.look x all)) := by
  refine (callsIn_wide (n := 0)).1 (callsIn_of_wp_marks Try.func44 rfl trivial (wpIn_wide.2 ?_) rfl)
  simp only [Try.ntmps44, List.size_toArray, List.length_cons, List.length_nil, Nat.reduceAdd, Nat.reduceSub, Array.replicate_succ, Array.replicate_zero, List.push_toArray, List.append_toArray, List.nil_append, List.cons_append]
  obtain ⟨W1, W2, W3, W4, W5, W6, hW1, hW2, hW3, hW4, hW5, hW6, hs1, hs2, hs3, hs4, hs5, hs6, hA6, hr0, hr1, hr2, hr3, hr4, hr5⟩ := rows6 w (.cells v.cells 40) (.cells x.cells 48) (.cells #[.bool all] 4) (.cells (pageCells noPage) 32) (.cells PV.zero.cells 40) (.cells (Tal.mk 0 0 0).cells 57)
  have HASK := Lib.hid (fasked_calls v P x hx W6 ((hv.mono (S := All) fun _ _ => trivial).agrees hA6 fun _ h => h) (hv.small hlow))
  have HV := Lib.hid hv.both
  have HLOW := Lib.hid hlow
  have HA6 := Lib.hid hA6
  have HR0 := Lib.hid hr0
  have HR1 := Lib.hid hr1
  have HR2 := Lib.hid hr2
  have HR3 := Lib.hid hr3
  have HR4 := Lib.hid hr4
  have HR5 := Lib.hid hr5
  have HS6 := Lib.hid hs6
  clear hv hlow hA6 hr0 hr1 hr2 hr3 hr4 hr5 hs6
  go_wp2_with (first
    | (refine wpList_val rfl (ex_alloc rfl (.agg (pageCells noPage)) zero_page) ?_; rw [show (Value.agg (pageCells noPage)).cells = pageCells noPage from rfl, hW4, hs3])
    | (refine wpList_val rfl (ex_alloc rfl (.agg PV.zero.cells) zero_pair) ?_; rw [show (Value.agg PV.zero.cells).cells = PV.zero.cells from rfl, hW5, hs4])
    | (refine wpList_val rfl (ex_alloc rfl (.agg (Tal.mk 0 0 0).cells) zero_tally) ?_; rw [show (Value.agg (Tal.mk 0 0 0).cells).cells = (Tal.mk 0 0 0).cells from rfl, hW6, hs5])
    | (refine wpList_val rfl (ex_load (ty := 40) rfl isAgg_pair w.heap.size 0 rfl v.cells rfl (v.load HR0.out)) ?_)
    | (refine wpList_val rfl (ex_load (ty := 48) rfl isAgg_ptr (w.heap.size + 1) 0 rfl x.cells rfl (x.load HR1.out)) ?_))
  refine wp_scope_straight ?_
  go_wp2_with (first
    | (refine wpList_val rfl (ex_load (ty := 40) rfl isAgg_pair w.heap.size 0 rfl v.cells rfl (v.load HR0.out)) ?_)
    | (refine wpList_val rfl (ex_load (ty := 48) rfl isAgg_ptr (w.heap.size + 1) 0 rfl x.cells rfl (x.load HR1.out)) ?_))
  refine HASK.out.mono ?_
  rintro e W7 ⟨rfl, hg7⟩
  have HA7 := Lib.hid (HA6.out.trans hg7)
  have k7 : ∀ {b : Nat} {o : Obj}, W6.heap[b]? = some o → W7.heap[b]? = some o := fun hb => (hg7.block _ (Array.getElem?_eq_some_iff.1 hb).1 trivial).trans hb
  have HR0 := Lib.hid (k7 HR0.out)
  have HR1 := Lib.hid (k7 HR1.out)
  have HR2 := Lib.hid (k7 HR2.out)
  have HR3 := Lib.hid (k7 HR3.out)
  have HR4 := Lib.hid (k7 HR4.out)
  have HR5 := Lib.hid (k7 HR5.out)
  have HS7 := Lib.hid (show w.heap.size + 1 + 1 + 1 + 1 + 1 + 1 ≤ W7.heap.size by rw [← HS6.out]; exact hg7.size)
  have HP7 := Lib.hid (HV.out.agrees HA7.out fun _ _ => trivial)
  clear hg7 HASK HA6 HS6 hW1 hW2 hW3 hW4 hW5 hW6 hs1 hs2 hs3 hs4 hs5
  clear k7
  generalize hak : P.asked x = ak at *
  by_cases h0 : ak = 0
  · subst h0
    go_wp2_with (first
      | (refine wpList_val rfl (ex_load (ty := 40) rfl isAgg_pair w.heap.size 0 rfl v.cells rfl (v.load HR0.out)) ?_)
      | (refine wpList_val rfl (ex_load (ty := 48) rfl isAgg_ptr (w.heap.size + 1) 0 rfl x.cells rfl (x.load HR1.out)) ?_))
    obtain ⟨W8, hW8⟩ : ∃ W8, W7.alloc (.cells #[.slice none 0 0] 52) = W8 := ⟨_, rfl⟩
    obtain ⟨W9, hW9⟩ : ∃ W9, W8.alloc (.cells #[.bool false] 4) = W9 := ⟨_, rfl⟩
    rw [hW8, hW9]
    generalize hbl : W7.heap.size = bl at *
    have hs8 : W8.heap.size = bl + 1 := by rw [← hW8, World.size_alloc, hbl]
    have hs9 : W9.heap.size = bl + 1 + 1 := by rw [← hW9, World.size_alloc, hs8]
    have k9 : ∀ {b : Nat} {o : Obj}, W7.heap[b]? = some o → W9.heap[b]? = some o := fun h => by rw [← hW9, ← hW8]; exact row_old (row_old h)
    have HR0 := Lib.hid (k9 HR0.out)
    have HR1 := Lib.hid (k9 HR1.out)
    have HR2 := Lib.hid (k9 HR2.out)
    have HR3 := Lib.hid (k9 HR3.out)
    have HR4 := Lib.hid (k9 HR4.out)
    have HR5 := Lib.hid (k9 HR5.out)
    have HBL := Lib.hid (show W9.heap[bl]? = some (.cells #[.slice none 0 0] 52 (0, 0)) by rw [← hW9, ← hW8]; exact row_old (row_new _ hbl))
    have HBS := Lib.hid (show W9.heap[bl + 1]? = some (.cells #[.bool false] 4 (0, 0)) by rw [← hW9]; exact row_new _ hs8)
    have HA9 := Lib.hid (show Agrees All w W9 by rw [← hW9, ← hW8]; exact (HA7.out.alloc _).alloc _)
    have HP9 := Lib.hid (HV.out.agrees HA9.out fun _ _ => trivial)
    have HS9 := Lib.hid hs9
    clear k9 hW8 hW9 hs8 HP7 HA7 hs9 hbl
    refine wp_label ?_
    rename_i K0 hK0
    refine hK0 _ _ ?_
    clear hK0 K0
    apply wp_seq_k
    intro K hK
    have hT : ∀ (a : Act) (D : Nat) (W : World) (u : Value) (ys : List (Int × Int)), a.defers = [{ target := .collected D, args := #[] }] → a.tmps = (fun u : Nat → Value => (u 0 :: u 1 :: u 2 :: (.pointer (some ⟨w.heap.size, 0, none⟩) : Value) :: u 4 :: u 5 :: (.pointer (some ⟨w.heap.size + 1 + 1 + 1, 0, none⟩) : Value) :: (.pointer (some ⟨w.heap.size + 1 + 1 + 1 + 1, 0, none⟩) : Value) :: (.pointer (some ⟨w.heap.size + 1 + 1 + 1 + 1 + 1, 0, none⟩) : Value) :: u 9 :: u 10 :: (.pointer (some ⟨bl, 0, none⟩) : Value) :: (.pointer (some ⟨bl + 1, 0, none⟩) : Value) :: u 13 :: u 14 :: u 15 :: u 16 :: u 17 :: u 18 :: u 19 :: u 20 :: u 21 :: u 22 :: u 23 :: u 24 :: u 25 :: u 26 :: u 27 :: u 28 :: u 29 :: u 30 :: u 31 :: u 32 :: u 33 :: u 34 :: u 35 :: u 36 :: u 37 :: u 38 :: u 39 :: u 40 :: u 41 :: u 42 :: u 43 :: u 44 :: u 45 :: u 46 :: u 47 :: u 48 :: u 49 :: u 50 :: u 51 :: u 52 :: u 53 :: u 54 :: u 55 :: u 56 :: u 57 :: u 58 :: u 59 :: u 60 :: u 61 :: u 62 :: u 63 :: u 64 :: u 65 :: u 66 :: u 67 :: u 68 :: u 69 :: u 70 :: u 71 :: u 72 :: u 73 :: u 74 :: u 75 :: u 76 :: u 77 :: u 78 :: u 79 :: u 80 :: u 81 :: u 82 :: u 83 :: u 84 :: u 85 :: u 86 :: u 87 :: []).toArray) (fun i => a.tmps.toList.getD i undef) →
        bl + 1 < D → W.heap[D]? = some (.deferred (some [])) → SeenW w w.heap.size bl v P x all ys W u → ys = P.seen x all → K a W := by
      rintro ⟨tm, df⟩ D W u ys hd ht hD hrD hS hy
      simp only at hd ht
      subst hd
      have HT := Lib.hid ht
      rw [HT.out]
      have hle : (P.badIn x ys).length ≤ 4 := by
        rw [hy]
        refine Nat.le_trans (List.length_filter_le _ _) ?_
        unfold Pair.seen
        rw [List.length_take]
        refine Nat.le_trans (Nat.min_le_right _ _) (Nat.le_trans (List.length_filter_le _ _) (copies_le x))
      have hmem : ∀ c ∈ P.badIn x ys, (c.1 = 0 ∨ c.1 = 1) ∧ in64 c.2 := by
        intro c hc
        rw [hy] at hc
        have h1 : c ∈ x.copies := (List.mem_filter.1 (List.mem_of_mem_take (List.mem_filter.1 hc).1)).1
        have h2 := copies_mem x hx c h1
        unfold in64
        omega
      refine hK _ _ (wp_mono (look_end _ rfl R0 w W w.heap.size (w.heap.size + 1 + 1 + 1) (w.heap.size + 1 + 1 + 1 + 1) (w.heap.size + 1 + 1 + 1 + 1 + 1) bl (bl + 1) D v P (P.pageIn x ys) ys.length (P.badIn x ys).length (ys.any (P.isRight x)) (P.badIn x ys) u (fun i => tm.toList.getD i undef) ⟨by omega, by omega, by omega, by omega, by have := HS7.out; omega, by omega, hD⟩
        ⟨hS.ls.ag, hS.r3, hS.r6, hS.r7, hS.r8, hrD, (HV.out.agrees hS.ls.ag fun _ _ => trivial).mono fun b hb => .inl hb⟩ HLOW.out (pageIn_len x ys fun c => Disk.read_len _ ?_ _) hle hmem hS.ls.row hS.rs hS.ls.own) ?_)
      · exact (HV.out.disk _).ok
      · intro e a' w' h
        rw [look_of_seen hak hy.symm]
        cases e <;> exact h
    have HT := Lib.hid hT
    clear hT hK
    go_wp2_with (first
      | (go_at_call 47; refine (fcopies_calls v x _).mono ?_; rintro e w3 ⟨rfl, hw3⟩)
      | (refine wpList_val rfl (ex_load (ty := 40) rfl isAgg_pair w.heap.size 0 rfl v.cells rfl (v.load HR0.out)) ?_)
      | (refine wpList_val rfl (ex_load (ty := 48) rfl isAgg_ptr (w.heap.size + 1) 0 rfl x.cells rfl (x.load HR1.out)) ?_))
    have hn3 : w3.heap.size = W9.heap.size + 1 + 1 := by rw [← hw3]; simp
    have hA3 : Agrees All W9 w3 := by rw [← hw3]; exact ((Agrees.refl _ _).alloc _).alloc _
    have hbp : w3.heap[W9.heap.size]? = some (.cells v.cells 40 (0, 0)) := by rw [← hw3]; exact row_old (row_new _ rfl)
    have hbx : w3.heap[W9.heap.size + 1]? = some (.cells x.cells 48 (0, 0)) := by rw [← hw3]; exact row_new _ (World.size_alloc _ _)
    have k3 : ∀ {b : Nat} {o : Obj}, W9.heap[b]? = some o → w3.heap[b]? = some o := fun h => (hA3.block _ (Array.getElem?_eq_some_iff.1 h).1 trivial).trans h
    have hAw3 := HA9.out.trans hA3
    have hS0 : SeenW w w.heap.size bl v P x all [] w3 (.slice none 0 0) :=
      ⟨k3 HR0.out, k3 HR2.out, by rw [pageIn_none rfl]; exact k3 HR3.out, k3 HR4.out, k3 HR5.out, k3 HBS.out, ⟨hAw3, k3 HBL.out, World.ownsRow_nil _ _ _ _⟩⟩
    have hPV : PairAt (fun b => b < w.heap.size ∨ b = W9.heap.size ∨ b = W9.heap.size + 1) w3 v P := (HV.out.agrees hAw3 (fun _ _ => trivial)).mono (fun b hb => .inl hb.2)
    have hle : (P.found x).length ≤ 4 := Nat.le_trans (List.length_filter_le _ _) (copies_le x)
    have hlens : ∀ c, (P.has c).length = 256 := fun c => Disk.read_len _ (HV.out.disk _).ok _
    obtain ⟨i0, hi0, hz0, hz1, hz2⟩ := info_parts infoTwo
    have HS0 := Lib.hid hS0
    have HLEN := Lib.hid hlens
    have hs9 := HS9.out
    have hs7 := HS7.out
    have HRD0 := HR0
    clear HR0 HR1 HR2 HR3 HR4 HR5 HBL HBS hS0 hw3 k3 hlens
    generalize hbn : W9.heap.size = pb at *
    refine wp_rangeFunc_box rfl (Go.Proofs.enters_of Try.func56 (by kernel_rfl) rfl) (fcopies1_iter (fun b => b < w.heap.size ∨ b = pb ∨ b = pb + 1) bl w3 pb (pb + 1) v P x hx hPV hbp hbx (.inr (.inl rfl)) (.inr (.inr rfl)) (fun b hb => by omega))
      (Agrees.refl _ _) (fun b hb => by omega) (by omega) (fun _ => rfl)
      (seenC w.heap.size bl (.slice none 0 0)) (fun b hb => ?hC0)
      (lookI w bl v P x all) (lookX w bl v P x all) ?stabI ?stabX ⟨.slice none 0 0, rfl, by omega, by simpa using HS0.out, fun _ => rfl⟩
      (fun k b => { tmps := ((.agg v.cells : Value) :: (.agg x.cells : Value) :: (.bool all : Value) :: (.pointer (some ⟨w.heap.size, 0, none⟩) : Value) :: (.pointer (some ⟨w.heap.size + 1, 0, none⟩) : Value) :: (.pointer (some ⟨w.heap.size + 1 + 1, 0, none⟩) : Value) :: (.pointer (some ⟨w.heap.size + 1 + 1 + 1, 0, none⟩) : Value) :: (.pointer (some ⟨w.heap.size + 1 + 1 + 1 + 1, 0, none⟩) : Value) :: (.pointer (some ⟨w.heap.size + 1 + 1 + 1 + 1 + 1, 0, none⟩) : Value) :: (.int .i64 0 : Value) :: (.int .i64 0 : Value) :: (.pointer (some ⟨bl, 0, none⟩) : Value) :: (.pointer (some ⟨bl + 1, 0, none⟩) : Value) :: (.pointer (some ⟨b, 0, none⟩) : Value) :: undef :: undef :: (.agg v.cells : Value) :: (.agg x.cells : Value) :: (.int .i64 0 : Value) :: (.int .i64 0 : Value) :: (.bool false : Value) :: undef :: undef :: undef :: undef :: (.agg v.cells : Value) :: (.agg x.cells : Value) :: (.func (.func 56) #[] #[.pointer (some ⟨pb + 1, 0, none⟩), .pointer (some ⟨pb, 0, none⟩)] : Value) :: (.agg (fndCells ((P.found x).getD k (0, 0)) (P.has ((P.found x).getD k (0, 0))) (P.isRight x ((P.found x).getD k (0, 0)))) : Value) :: undef :: undef :: undef :: undef :: undef :: undef :: undef :: undef :: undef :: undef :: undef :: undef :: undef :: undef :: undef :: undef :: undef :: undef :: undef :: undef :: undef :: undef :: undef :: undef :: undef :: undef :: undef :: undef :: undef :: undef :: undef :: undef :: undef :: undef :: undef :: undef :: undef :: undef :: undef :: undef :: undef :: undef :: undef :: undef :: undef :: undef :: undef :: undef :: undef :: undef :: undef :: undef :: undef :: undef :: undef :: undef :: undef :: undef :: undef :: []).toArray, defers := [] }) (fun k => fndCells ((P.found x).getD k (0, 0)) (P.has ((P.found x).getD k (0, 0))) (P.isRight x ((P.found x).getD k (0, 0)))) 96
      ?assign ?body ?done ?stop
    case hC0 =>
      unfold seenC at hb
      simp only [Value.ownBlock] at hb
      rcases hb with rfl | rfl | rfl | rfl | hb
      · exact ⟨by omega, by omega⟩
      · exact ⟨by omega, by omega⟩
      · exact ⟨by omega, by omega⟩
      · exact ⟨by omega, by omega⟩
      · simp at hb
    case stabI =>
      rintro k C W W' ⟨u, rfl, hk, h, ha⟩ hag
      exact ⟨u, rfl, hk, h.mono hag (fun b hb => hb) hs7 (Nat.le_refl _), ha⟩
    case stabX =>
      rintro c k C W W' ⟨u, rfl, rfl, h, ha⟩ hag
      exact ⟨u, rfl, rfl, h.mono hag (fun b hb => hb) hs7 (Nat.le_refl _), ha⟩
    case assign =>
      intro l k W K hk hK
      dsimp only at hK ⊢
      have hfs := fndCells_size ((P.found x).getD k (0, 0)) (P.has ((P.found x).getD k (0, 0))) (P.isRight x ((P.found x).getD k (0, 0))) (HLEN.out _)
      have hfo := fndCells_one ((P.found x).getD k (0, 0)) (P.has ((P.found x).getD k (0, 0))) (P.isRight x ((P.found x).getD k (0, 0)))
      generalize fndCells ((P.found x).getD k (0, 0)) (P.has ((P.found x).getD k (0, 0))) (P.isRight x ((P.found x).getD k (0, 0))) = fc at *
      have hrow := World.alloc_heap_new W (.cells zeroFnd 96)
      have HROW := Lib.hid hrow
      have HXS := Lib.hid hfs
      have HXO := Lib.hid hfo
      have HK := Lib.hid (hK W.heap.size ((W.alloc (.cells zeroFnd 96)).setRow W.heap.size fc) (((Agrees.refl All W).alloc _).setRow (.inr (Nat.le_refl _)) _) (Nat.le_refl _) (setRow_heap _ _ _ _ _ _ hrow))
      clear hK hrow hfs hfo
      rw [fold1]
      simp only [List.setIfInBounds_toArray, List.set_cons_succ, List.set_cons_zero]
      gi_wp2_with (first | (refine wpListIn_val (fun _ => trivial) rfl rfl (ex_alloc rfl (.agg zeroFnd) zero_found) ?_; rw [show (Value.agg zeroFnd).cells = zeroFnd from rfl]) | (refine wpListIn_unit (fun _ => trivial) rfl rfl (ex_storeAll (ty := 96) rfl isAgg_found.2 W.heap.size rfl fc zeroFnd rfl HXS.out HROW.out zeroFnd_size HXO.out) ?_))
      exact HK.out
    case body =>
      rintro l k bx C W hk ⟨u, rfl, hkl, hI, hall⟩ hCW hsz hbx hnb hlo
      have hsuc : (P.found x).take (k + 1) = (P.found x).take k ++ [(P.found x).getD k (0, 0)] := by
        rw [List.take_succ_eq_append_getElem hk, List.getD_eq_getElem?_getD, List.getElem?_eq_getElem hk]; rfl
      have hstop : all = false → P.isRight x ((P.found x).getD k (0, 0)) = true → (P.found x).take (k + 1) = P.seen x all := fun ha hr => by
        unfold Pair.seen
        rw [ha, lookN_stop (P.isRight x) (P.found x) k hk (hall ha) hr]
      have hyl : ((P.found x).take k).length = k := by rw [List.length_take]; omega
      have hbl4 : (P.badIn x ((P.found x).take k)).length ≤ 4 := Nat.le_trans (List.length_filter_le _ _) (by rw [hyl]; omega)
      have hpl : (P.has ((P.found x).getD k (0, 0))).length = 256 := HLEN.out _
      have HALL : RowKit.Hid (all = false → ((P.found x).take k).any (P.isRight x) = false) := hall
      have HSTOP : RowKit.Hid (all = false → P.isRight x ((P.found x).getD k (0, 0)) = true → (P.found x).take (k + 1) = P.seen x all) := hstop
      have HSUC := Lib.hid hsuc
      have HBI := Lib.hid (badIn_snoc P x ((P.found x).take k) ((P.found x).getD k (0, 0)))
      have HPI : RowKit.Hid ((P.isRight x ((P.found x).getD k (0, 0)) = false → P.pageIn x ((P.found x).take k ++ [(P.found x).getD k (0, 0)]) = P.pageIn x ((P.found x).take k)) ∧ (((P.found x).take k).any (P.isRight x) = true → P.pageIn x ((P.found x).take k ++ [(P.found x).getD k (0, 0)]) = P.pageIn x ((P.found x).take k)) ∧
          (((P.found x).take k).any (P.isRight x) = false → P.isRight x ((P.found x).getD k (0, 0)) = true → P.pageIn x ((P.found x).take k ++ [(P.found x).getD k (0, 0)]) = P.has ((P.found x).getD k (0, 0)))) :=
        ⟨pageIn_bad, fun h => pageIn_old h _, fun h h' => pageIn_new h h'⟩
      have HANY : RowKit.Hid (((P.found x).take k ++ [(P.found x).getD k (0, 0)]).any (P.isRight x) = (((P.found x).take k).any (P.isRight x) || P.isRight x ((P.found x).getD k (0, 0)))) := Lib.hid (by simp)
      clear hall hstop
      rw [hsuc] at HSTOP
      clear hsuc
      have hIls := hI.ls
      have hIrs := hI.rs
      have hIr8 := hI.r8
      have hIr6 := hI.r6
      have hIr5 := hI.r5
      generalize P.has ((P.found x).getD k (0, 0)) = pg at *
      generalize hrt : P.isRight x ((P.found x).getD k (0, 0)) = rt at *
      generalize (P.found x).getD k (0, 0) = av at *
      generalize hys : (P.found x).take k = ys at *
      rw [hyl] at hIr8
      generalize hnbd : (P.badIn x ys).length = nb at *
      generalize hsm : ys.any (P.isRight x) = sm at *
      obtain ⟨c1, c2⟩ := av
      have hlt5 : w.heap.size + 1 + 1 + 1 + 1 + 1 < bx := by omega
      have d1 : W.cell? ⟨bl, 0, none⟩ = some u := cell_of_row W _ 0 _ _ _ hIls.row
      have c80 : W.cell? ⟨w.heap.size + 1 + 1 + 1 + 1 + 1, 0, none⟩ = some (.int .i64 (k : Int)) := by rw [cell_of_row W _ 0 _ _ _ hIr8]; rfl
      have c80f : W.frozen? ⟨w.heap.size + 1 + 1 + 1 + 1 + 1, 0, none⟩ = false := frozen_of_row W _ 0 _ _ hIr8
      obtain ⟨Wa, hWa⟩ : ∃ Wa, W.setCell ⟨w.heap.size + 1 + 1 + 1 + 1 + 1, 0, none⟩ (.int .i64 ((k : Int) + 1)) = Wa := ⟨_, rfl⟩
      have hra : Wa.heap[w.heap.size + 1 + 1 + 1 + 1 + 1]? = some (.cells (Tal.mk ((k : Int) + 1) nb 0).cells 57 (0, 0)) := by rw [← hWa]; exact heap_setCell_same _ _ 0 _ _ _ hIr8
      have hga : Agrees (fun b => b ≠ w.heap.size + 1 + 1 + 1 + 1 + 1) W Wa := by rw [← hWa]; exact (Agrees.refl _ _).setCell (.inl (fun h => h rfl)) _
      have hbxa := (hga.block bx (Array.getElem?_eq_some_iff.1 hbx).1 (by omega)).trans hbx
      have f258 : Wa.cell? ⟨bx, 258, none⟩ = some (.bool rt) := by rw [cell_of_row Wa _ 258 _ _ _ hbxa]; simp [fndCells, fndL, copyL, hpl]
      have hwk1 : IntKind.i64.wrap ((k : Int) + 1) = (k : Int) + 1 := by rw [IntKind.wrap_i64]; omega
      have hwk2 : IntKind.i64.wrap ((nb : Int) + 1) = (nb : Int) + 1 := by rw [IntKind.wrap_i64]; omega
      have HII := Lib.hid hI
      have HCW := Lib.hid hCW
      have hne1 : u.ownBlock ≠ some (bl + 1) := own_ne hIls.own hIrs (by decide)
      have hob : ∀ b, u.ownBlock = some b → bl + 1 ≤ b := fun b hb => (hIls.own.lt b hb).1
      have HOB := Lib.hid hob
      have HNE1 := Lib.hid hne1
      have HNB := Lib.hid hnbd
      have HSM := Lib.hid hsm
      cases rt
      · have c81 : Wa.cell? ⟨w.heap.size + 1 + 1 + 1 + 1 + 1, 1, none⟩ = some (.int .i64 (nb : Int)) := by rw [cell_of_row Wa _ 1 _ _ _ hra]; rfl
        have c81f : Wa.frozen? ⟨w.heap.size + 1 + 1 + 1 + 1 + 1, 1, none⟩ = false := frozen_of_row Wa _ 1 _ _ hra
        obtain ⟨Wb, hWb⟩ : ∃ Wb, Wa.setCell ⟨w.heap.size + 1 + 1 + 1 + 1 + 1, 1, none⟩ (.int .i64 ((nb : Int) + 1)) = Wb := ⟨_, rfl⟩
        have hrb : Wb.heap[w.heap.size + 1 + 1 + 1 + 1 + 1]? = some (.cells (Tal.mk ((k : Int) + 1) ((nb : Int) + 1) 0).cells 57 (0, 0)) := by rw [← hWb]; exact heap_setCell_same _ _ 1 _ _ _ hra
        have hgb : Agrees (fun b => b ≠ w.heap.size + 1 + 1 + 1 + 1 + 1) W Wb := by rw [← hWb]; exact hga.setCell (.inl (fun h => h rfl)) _
        have hbxb := (hgb.block bx (Array.getElem?_eq_some_iff.1 hbx).1 (by omega)).trans hbx
        have hlsb := hIls.sta hgb (fun b hb => by
          rcases hb with hb | hb | hb
          · omega
          · have := hob b hb; omega
          · omega)
        have f0 : Wb.cell? ⟨bx, 0, none⟩ = some (.int .i64 c1) := by rw [cell_of_row Wb _ 0 _ _ _ hbxb]; rfl
        have f1 : Wb.cell? ⟨bx, 1, none⟩ = some (.int .i64 c2) := by rw [cell_of_row Wb _ 1 _ _ _ hbxb]; rfl
        have d1b : Wb.cell? ⟨bl, 0, none⟩ = some u := cell_of_row Wb _ 0 _ _ _ hlsb.row
        have hw0 := hs7
        obtain ⟨v', W1, hrun, hP⟩ := hlsb.push (P := Try.prog) (fun b _ hb => ⟨by omega, fun e => by have := hob b e; omega⟩) (t := 52) Try.underlying52 hi0 hz0 hz1 hz2 rfl (by decide) #[.int .i64 c1, .int .i64 c2] rfl (by intro u hu; simp at hu; rcases hu with rfl | rfl <;> rfl) (by simp only [maxLen]; omega) (by omega)
        have e1 : W1.cell? ⟨bl, 0, none⟩ = some u := cell_of_row W1 _ 0 _ _ _ hP.row
        have e1f : W1.frozen? ⟨bl, 0, none⟩ = false := frozen_of_row W1 _ 0 _ _ hP.row
        have hst : (store ⟨bl, 0, none⟩ v').run Try.prog W1 = .ok () (W1.setCell ⟨bl, 0, none⟩ v') := by
          rw [run_store _ _ _ _ _ hP.one, e1]
          simp [e1f]
        have HP := Lib.hid hP
        have HR := Lib.hid hrun
        have HGB := Lib.hid hgb
        have HRB := Lib.hid hrb
        have HX := Lib.hid hbx
        clear hI hP hrun hCW hob hbx hi0 hz0 hz1 hz2 hbp hPV hbxa hbxb hlsb hra hrb hga hgb hIls hIrs hIr8 hIr6 hIr5 hne1 hnb hnbd hsm hys hrt
        gi_wp2_with (first
          | (refine wpListIn_val (fun _ => trivial) rfl rfl (ex_load1 (ty := 52) rfl oneTwos rfl d1b) ?_)
          | (refine wpListIn_val (fun _ => trivial) rfl rfl (ex_buildSlice1 (T := 52) rfl rfl Try.underlying52 infoTwo (by decide) (by decide) rfl) ?_)
          | (refine wpListIn_val (fun _ => trivial) rfl rfl (ex_app rfl rfl rfl HR.out) ?_))
        have hag1 := HP.out.ag
        have hw0 := hs7
        have hsf : (W1.setCell ⟨bl, 0, none⟩ v').heap.size = W1.heap.size := by simp [World.setCell]
        have hgf : Agrees (fun b => b ≠ w.heap.size + 1 + 1 + 1 + 1 + 1 ∧ b ≠ bl ∧ u.ownBlock ≠ some b) W (W1.setCell ⟨bl, 0, none⟩ v') :=
          ((HGB.out.mono fun b _ hb => hb.1).trans (hag1.mono fun b _ hb => fun h => h.elim hb.2.1 hb.2.2)).setCell (.inl fun h => h.2.1 rfl) _
        have old : ∀ {b : Nat} {o : Obj}, b < bl → b ≠ w.heap.size + 1 + 1 + 1 + 1 + 1 → W.heap[b]? = some o → (W1.setCell ⟨bl, 0, none⟩ v').heap[b]? = some o := fun h1 h2 hb => (hgf.block _ (Array.getElem?_eq_some_iff.1 hb).1 ⟨h2, by omega, fun e => by have := HOB.out _ e; omega⟩).trans hb
        have hI := HII.out
        have hr8 : (W1.setCell ⟨bl, 0, none⟩ v').heap[w.heap.size + 1 + 1 + 1 + 1 + 1]? = some (.cells (Tal.mk ((k : Int) + 1) ((nb : Int) + 1) 0).cells 57 (0, 0)) := by
          have h2 := ((hag1.setCell (p := ⟨bl, 0, none⟩) (.inl fun h => h (.inl rfl)) v').block _ (Array.getElem?_eq_some_iff.1 HRB.out).1 (fun h => by
            rcases h with h | h
            · omega
            · have := HOB.out _ h; omega)).trans HRB.out
          exact h2
        have hlen : (P.badIn x (ys ++ [(c1, c2)])).length = nb + 1 := by rw [HBI.out, List.length_append, HNB.out]; rfl
        refine ⟨hgf.mono fun b _ hb => ⟨fun h => hb (.inr (.inl h)), fun h => hb (.inr (.inr (.inl h))), fun h => hb (.inr (.inr (.inr (.inr h))))⟩, _, ⟨v', rfl, by omega, ?_, fun ha => ?_⟩, fun b hb => ?_⟩
        · rw [HSUC.out]
          refine ⟨old (by omega) (by omega) hI.r3, old (by omega) (by omega) hI.r5, ?_, old (by omega) (by omega) hI.r7, ?_, ?_, ?_⟩
          · rw [HPI.out.1 trivial]; exact old (by omega) (by omega) hI.r6
          · rw [hlen, List.length_append, hyl]; exact hr8
          · rw [HANY.out, Bool.or_false]
            exact (hgf.block _ (Array.getElem?_eq_some_iff.1 hI.rs).1 ⟨by omega, by omega, HNE1.out⟩).trans (by rw [hI.rs, ← HSM.out])
          · have := HP.out.list
            rw [hlen, HBI.out]
            simpa [copyL] using this
        · rw [HSUC.out, HANY.out, HALL.out ha]; rfl
        · have hwsz := HGB.out.size
          have hsz1 := hag1.size
          rcases hb with hb | hb | hb | hb | hb
          · exact ⟨by have := HCW.out _ (.inl hb); omega, .inl (.inl hb)⟩
          · exact ⟨by have := HCW.out _ (.inr (.inl hb)); omega, .inl (.inr (.inl hb))⟩
          · exact ⟨by have := HCW.out _ (.inr (.inr (.inl hb))); omega, .inl (.inr (.inr (.inl hb)))⟩
          · exact ⟨by have := HCW.out _ (.inr (.inr (.inr (.inl hb)))); omega, .inl (.inr (.inr (.inr (.inl hb))))⟩
          · have h := HP.out.blk b (.inr hb)
            refine ⟨h.1, ?_⟩
            rcases h.2 with (h | h) | h
            · exact .inl (.inr (.inr (.inl h)))
            · exact .inl (.inr (.inr (.inr (.inr h))))
            · exact .inr (by omega)
      · have hr6a := (hga.block _ (Array.getElem?_eq_some_iff.1 hIr6).1 (by omega)).trans hIr6
        have hsa := (hga.block (bl + 1) (Array.getElem?_eq_some_iff.1 hIrs).1 (by omega)).trans hIrs
        have cs : Wa.cell? ⟨bl + 1, 0, none⟩ = some (.bool sm) := by rw [cell_of_row Wa _ 0 _ _ _ hsa]; rfl
        have csf : Wa.frozen? ⟨bl + 1, 0, none⟩ = false := frozen_of_row Wa _ 0 _ _ hsa
        have hal := (hga.block _ (Array.getElem?_eq_some_iff.1 hIr5).1 (by omega)).trans hIr5
        have ca : Wa.cell? ⟨w.heap.size + 1 + 1, 0, none⟩ = some (.bool all) := by rw [cell_of_row Wa _ 0 _ _ _ hal]; rfl
        have hra2 := hra
        have fin : ∀ (W' : World), Agrees (fun b => b ≠ w.heap.size + 1 + 1 + 1 + 1 + 1 ∧ b ≠ w.heap.size + 1 + 1 + 1 ∧ b ≠ bl + 1) W W' → W'.heap.size = W.heap.size → W'.heap[w.heap.size + 1 + 1 + 1 + 1 + 1]? = some (.cells (Tal.mk ((k : Int) + 1) nb 0).cells 57 (0, 0)) →
            W'.heap[w.heap.size + 1 + 1 + 1]? = some (.cells (pageCells (P.pageIn x (ys ++ [(c1, c2)]))) 32 (0, 0)) → W'.heap[bl + 1]? = some (.cells #[.bool true] 4 (0, 0)) →
            Agrees (fun b => ¬ seenC w.heap.size bl u b) W W' ∧ SeenW w w.heap.size bl v P x all ((P.found x).take (k + 1)) W' u ∧ ∀ b, seenC w.heap.size bl u b → b < W'.heap.size ∧ (seenC w.heap.size bl u b ∨ W.heap.size ≤ b) := fun W' hg hs h8 h6 hs1 => by
          have hI := HII.out
          have hw0 := hs7
          have old : ∀ {b : Nat} {o : Obj}, b ≠ w.heap.size + 1 + 1 + 1 + 1 + 1 ∧ b ≠ w.heap.size + 1 + 1 + 1 ∧ b ≠ bl + 1 → W.heap[b]? = some o → W'.heap[b]? = some o := fun h1 hb => (hg.block _ (Array.getElem?_eq_some_iff.1 hb).1 h1).trans hb
          have hbi : P.badIn x (ys ++ [(c1, c2)]) = P.badIn x ys := by rw [HBI.out]; simp
          refine ⟨hg.mono fun b _ hb => ⟨fun h => hb (.inr (.inl h)), fun h => hb (.inl h), fun h => hb (.inr (.inr (.inr (.inl h))))⟩, ?_, fun b hb => ⟨by rw [hs]; exact HCW.out b hb, .inl hb⟩⟩
          rw [HSUC.out]
          refine ⟨old (by omega) hI.r3, old (by omega) hI.r5, h6, old (by omega) hI.r7, ?_, ?_, ?_⟩
          · rw [hbi, HNB.out, List.length_append, hyl]; exact h8
          · rw [HANY.out, Bool.or_true]; exact hs1
          · rw [hbi]
            rw [HNB.out]
            have hl := hI.ls
            rw [HNB.out] at hl
            refine hl.sta hg fun b hb => ?_
            rcases hb with hb | hb | hb
            · omega
            · have := HOB.out b hb
              refine ⟨by omega, by omega, fun e => HNE1.out (e ▸ hb)⟩
            · omega
        have HFIN := Lib.hid fin
        have HGA := Lib.hid hga
        have HRA := Lib.hid hra
        have HR6A := Lib.hid hr6a
        have HSA := Lib.hid hsa
        have HXA := Lib.hid hbxa
        have HPG := Lib.hid (show (pageCells pg).size = 256 by rw [pageCells_size, hpl])
        have HPG0 := Lib.hid (show (pageCells (P.pageIn x ys)).size = 256 by rw [pageCells_size]; exact pageIn_len x ys HLEN.out)
        have HFP := Lib.hid (show ∀ j, j < 256 → Wa.cell? ⟨bx, 2 + j, none⟩ = (pageCells pg)[j]? from fun j hj => by
          rw [cell_of_row Wa _ _ _ _ _ hbxa, pageCells_get pg j (by omega)]
          unfold fndCells fndL copyL
          rw [List.getElem?_toArray, List.getElem?_append_right (by simp), List.getElem?_append_left (by simp; omega)]
          simp [hpl, hj])
        have hsza : Wa.heap.size = W.heap.size := by rw [← hWa]; simp [World.setCell]
        cases sm
        · obtain ⟨Wc, hWc⟩ : ∃ Wc, Wa.setRow (w.heap.size + 1 + 1 + 1) (pageCells pg) = Wc := ⟨_, rfl⟩
          obtain ⟨Wd, hWd⟩ : ∃ Wd, Wc.setCell ⟨bl + 1, 0, none⟩ (.bool true) = Wd := ⟨_, rfl⟩
          have hw0 := hs7
          have hgc : Agrees (fun b => b ≠ w.heap.size + 1 + 1 + 1) Wa Wc := by rw [← hWc]; exact (Agrees.refl _ _).setRow (.inl (fun h => h rfl)) _
          have hsc := (hgc.block _ (Array.getElem?_eq_some_iff.1 hsa).1 (by omega)).trans hsa
          have csc : Wc.cell? ⟨bl + 1, 0, none⟩ = some (.bool false) := by rw [cell_of_row Wc _ 0 _ _ _ hsc]; rfl
          have cscf : Wc.frozen? ⟨bl + 1, 0, none⟩ = false := frozen_of_row Wc _ 0 _ _ hsc
          have hgd : Agrees (fun b => b ≠ w.heap.size + 1 + 1 + 1 ∧ b ≠ bl + 1) Wa Wd := by rw [← hWd]; exact (hgc.mono fun b _ hb => hb.1).setCell (.inl fun h => h.2 rfl) _
          have hald := (hgd.block _ (Array.getElem?_eq_some_iff.1 hal).1 (by omega)).trans hal
          have cad : Wd.cell? ⟨w.heap.size + 1 + 1, 0, none⟩ = some (.bool all) := by rw [cell_of_row Wd _ 0 _ _ _ hald]; rfl
          have h8d := (hgd.block _ (Array.getElem?_eq_some_iff.1 hra).1 (by omega)).trans hra
          have hsd : Wd.heap[bl + 1]? = some (.cells #[.bool true] 4 (0, 0)) := by rw [← hWd]; exact heap_setCell_same _ _ 0 _ _ _ hsc
          have h6c : Wc.heap[w.heap.size + 1 + 1 + 1]? = some (.cells (pageCells pg) 32 (0, 0)) := by rw [← hWc]; exact setRow_heap _ _ _ _ _ _ hr6a
          have h6d : Wd.heap[w.heap.size + 1 + 1 + 1]? = some (.cells (pageCells pg) 32 (0, 0)) := by
            rw [← hWd]
            exact (((Agrees.refl (fun b => b ≠ bl + 1) Wc).setCell (p := ⟨bl + 1, 0, none⟩) (.inl fun h => h rfl) (.bool true)).block _ (Array.getElem?_eq_some_iff.1 h6c).1 (by omega)).trans h6c
          have hszd : Wd.heap.size = W.heap.size := by rw [← hWd, ← hWc]; simp [World.setCell, hsza]
          have HF := Lib.hid (HFIN.out Wd ((hga.mono fun b _ hb => hb.1).trans (hgd.mono fun b _ hb => hb.2)) hszd h8d (by rw [HPI.out.2.2 rfl rfl]; exact h6d) hsd)
          clear hI hCW hob hbx hi0 hz0 hz1 hz2 hbp hPV hbxa hra hga hIls hIrs hIr8 hIr6 hIr5 hne1 hnb hnbd hsm hys hrt hra2 fin hgc hsc hgd hald h8d hsd h6c h6d hr6a hsa hal
          cases all
          · gi_wp2_with (first
              | (refine wpListIn_val (fun _ => trivial) rfl rfl (ex_load (ty := 32) rfl isAgg_page bx 2 rfl (pageCells pg) HPG.out HFP.out) ?_)
              | (refine wpListIn_unit (fun _ => trivial) rfl rfl (ex_storeAll (ty := 32) rfl isAgg_page.2 (w.heap.size + 1 + 1 + 1) rfl (pageCells pg) (pageCells (P.pageIn x ys)) rfl HPG.out HR6A.out HPG0.out (pageCells_one _)) ?_))
            exact ⟨HF.out.1, _, ⟨u, rfl, rfl, HF.out.2.1, by rw [HSUC.out]; exact HSTOP.out trivial trivial⟩, HF.out.2.2⟩
          · gi_wp2_with (first
              | (refine wpListIn_val (fun _ => trivial) rfl rfl (ex_load (ty := 32) rfl isAgg_page bx 2 rfl (pageCells pg) HPG.out HFP.out) ?_)
              | (refine wpListIn_unit (fun _ => trivial) rfl rfl (ex_storeAll (ty := 32) rfl isAgg_page.2 (w.heap.size + 1 + 1 + 1) rfl (pageCells pg) (pageCells (P.pageIn x ys)) rfl HPG.out HR6A.out HPG0.out (pageCells_one _)) ?_))
            refine ⟨HF.out.1, _, ⟨u, rfl, by omega, HF.out.2.1, fun h => by cases h⟩, HF.out.2.2⟩
        · cases all
          · exact absurd (HALL.out rfl) (by decide)
          · have HF := Lib.hid (HFIN.out Wa (hga.mono fun b _ hb => hb.1) hsza hra (by rw [HPI.out.2.1 rfl]; exact hr6a) hsa)
            clear hI hCW hob hbx hi0 hz0 hz1 hz2 hbp hPV hbxa hra hga hIls hIrs hIr8 hIr6 hIr5 hne1 hnb hnbd hsm hys hrt hra2 fin hr6a hsa hal
            gi_wp2_with fail
            refine ⟨HF.out.1, _, ⟨u, rfl, by omega, HF.out.2.1, fun h => by cases h⟩, HF.out.2.2⟩
    case done =>
      rintro D C W hD ⟨u, rfl, _, h, ha⟩ hK hCD
      rw [List.take_length] at h
      have hseen : P.found x = P.seen x all := by
        unfold Pair.seen
        rw [lookN_done (P.isRight x) all (P.found x) (fun e => by have := ha e; rwa [List.take_length] at this), List.take_length]
      have HH := Lib.hid h
      have HK := Lib.hid hK
      have HY := Lib.hid hseen
      have hDD : bl + 1 < D := by omega
      clear h hK hseen ha hi0 hz0 hz1 hz2 hbp hPV hbx
      go_wp2_with fail
      exact HT.out _ D W u _ rfl rfl hDD HK.out HH.out HY.out
    case stop =>
      rintro D k c C W hD hk ⟨u, rfl, rfl, h, hy⟩ hK hCD
      have HH := Lib.hid h
      have HK := Lib.hid hK
      have HY := Lib.hid hy
      have hDD : bl + 1 < D := by omega
      clear h hK hy hi0 hz0 hz1 hz2 hbp hPV hbx
      go_wp2_with fail
      exact HT.out _ D W u _ rfl rfl hDD HK.out HH.out HY.out
  · go_wp2_with fail
    refine way3 _ rfl _ _ _ w.heap.size (w.heap.size + 1 + 1 + 1) (w.heap.size + 1 + 1 + 1 + 1) (w.heap.size + 1 + 1 + 1 + 1 + 1) v noPage ⟨0, 0, 0⟩ ak rfl rfl rfl rfl rfl rfl noPage_len HR0.out HR3.out HR4.out HR5.out (by omega) (by omega) (by omega) (by omega) (by omega) ?_
    intro a' W' hd h6 h7 h8 h9 ho
    go_wp2_with fail
    have hf := out_ret0 HA7.out HP7.out HR5.out (by omega) noPage_len hd h6 h7 h8 h9 ho
    unfold Pair.look
    rw [if_pos (by rw [hak]; exact h0), hak]
    exact hf
end Suture
/-
  A PAGE READ, A PAGE SCANNED: fetch.Read, fetch.Scan.
  Conditions: none beyond the pair's own reading.
-/
namespace Suture
open Go Go.RowKit Go.Proofs
attribute [local go_sem] Oper.semAt_some

theorem rows5 (w : World) (o0 o1 o2 o3 o4 : Obj) : ∃ W1 W2 W3 W4 W5, w.alloc o0 = W1 ∧ W1.alloc o1 = W2 ∧ W2.alloc o2 = W3 ∧ W3.alloc o3 = W4 ∧ W4.alloc o4 = W5 ∧
    W1.heap.size = w.heap.size + 1 ∧ W2.heap.size = w.heap.size + 1 + 1 ∧ W3.heap.size = w.heap.size + 1 + 1 + 1 ∧ W4.heap.size = w.heap.size + 1 + 1 + 1 + 1 ∧ W5.heap.size = w.heap.size + 1 + 1 + 1 + 1 + 1 ∧ Agrees All w W5 ∧
    W5.heap[w.heap.size]? = some o0 ∧ W5.heap[w.heap.size + 1]? = some o1 ∧ W5.heap[w.heap.size + 1 + 1]? = some o2 ∧ W5.heap[w.heap.size + 1 + 1 + 1]? = some o3 ∧ W5.heap[w.heap.size + 1 + 1 + 1 + 1]? = some o4 := by
  have h1 : (w.alloc o0).heap.size = w.heap.size + 1 := World.size_alloc _ _
  have h2 : ((w.alloc o0).alloc o1).heap.size = w.heap.size + 1 + 1 := by rw [World.size_alloc, h1]
  have h3 : (((w.alloc o0).alloc o1).alloc o2).heap.size = w.heap.size + 1 + 1 + 1 := by rw [World.size_alloc, h2]
  have h4 : ((((w.alloc o0).alloc o1).alloc o2).alloc o3).heap.size = w.heap.size + 1 + 1 + 1 + 1 := by rw [World.size_alloc, h3]
  exact ⟨_, _, _, _, _, rfl, rfl, rfl, rfl, rfl, h1, h2, h3, h4, by rw [World.size_alloc, h4], ((((((Agrees.refl _ w).alloc _).alloc _).alloc _).alloc _).alloc _),
    row_old (row_old (row_old (row_old (row_new _ rfl)))), row_old (row_old (row_old (row_new _ h1))), row_old (row_old (row_new _ h2)), row_old (row_new _ h3), row_new _ h4⟩
theorem Pair.look_len (P : Pair) (x : Ptr) (all : Bool) (h : ∀ c, (P.has c).length = 256) : (P.look x all).1.length = 256 := by
  unfold Pair.look
  dsimp only
  split
  · exact noPage_len
  · split
    · exact noPage_len
    · split
      · exact pageIn_len x _ h
      · exact noPage_len

set_option maxHeartbeats 2000000 in
set_option maxRecDepth 100000 in
theorem fread_calls (R0 : Nat → Prop) (v : PV) (P : Pair) (x : Ptr) (hx : x.ok) (w : World) (hv : PairAt R0 w v P) (hlow : P.low) :
    Calls Try.prog 22 #[.agg v.cells, .agg x.cells] w (LookTo R0 w (P.look x false)) := by
  obtain ⟨W1, W2, W3, W4, W5, hW1, hW2, hW3, hW4, hW5, hs1, hs2, hs3, hs4, hs5, hA5, hr0, hr1, hr2, hr3, hr4⟩ := rows5 w (.cells v.cells 40) (.cells x.cells 48) (.cells (pageCells noPage) 32) (.cells PV.zero.cells 40) (.cells (Tal.mk 0 0 0).cells 57)
  have HL := Lib.hid (look_calls _ v P x false hx W5 (hv.both.agrees hA5 fun _ _ => trivial) hlow)
  have HLL := Lib.hid (P.look_len x false fun c => Disk.read_len _ (hv.disk _).ok _)
  have HA5 := Lib.hid hA5
  have HR0 := Lib.hid hr0
  have HR1 := Lib.hid hr1
  have HR2 := Lib.hid hr2
  have HR3 := Lib.hid hr3
  have HR4 := Lib.hid hr4
  have HS5 := Lib.hid hs5
  clear hv hA5 hr0 hr1 hr2 hr3 hr4 hs5
  go_enter Try.func22, Try.ntmps22
  go_wp2_with (first
    | (refine wpList_val rfl (ex_alloc rfl (.agg (pageCells noPage)) zero_page) ?_; rw [show (Value.agg (pageCells noPage)).cells = pageCells noPage from rfl, hW3, hs2])
    | (refine wpList_val rfl (ex_alloc rfl (.agg PV.zero.cells) zero_pair) ?_; rw [show (Value.agg PV.zero.cells).cells = PV.zero.cells from rfl, hW4, hs3])
    | (refine wpList_val rfl (ex_alloc rfl (.agg (Tal.mk 0 0 0).cells) zero_tally) ?_; rw [show (Value.agg (Tal.mk 0 0 0).cells).cells = (Tal.mk 0 0 0).cells from rfl, hW5, hs4])
    | (refine wpList_val rfl (ex_load (ty := 40) rfl isAgg_pair w.heap.size 0 rfl v.cells rfl (v.load HR0.out)) ?_)
    | (refine wpList_val rfl (ex_load (ty := 48) rfl isAgg_ptr (w.heap.size + 1) 0 rfl x.cells rfl (x.load HR1.out)) ?_))
  refine HL.out.mono ?_
  rintro e W6 ⟨v', rfl, hP6, hg6⟩
  generalize P.look x false = r at *
  obtain ⟨pg, P', t, er⟩ := r
  simp only at hP6 HLL ⊢
  have HPS := Lib.hid (show (pageCells pg).size = 256 by rw [pageCells_size]; exact HLL.out)
  have HPN := Lib.hid (show (pageCells noPage).size = 256 by rw [pageCells_size]; exact noPage_len)
  have k6 : ∀ {b : Nat} {o : Obj}, W5.heap[b]? = some o → W6.heap[b]? = some o := fun h => (hg6.block _ (Array.getElem?_eq_some_iff.1 h).1 trivial).trans h
  obtain ⟨W7, hW7⟩ : ∃ W7, W6.setRow (w.heap.size + 1 + 1) (pageCells pg) = W7 := ⟨_, rfl⟩
  obtain ⟨W8, hW8⟩ : ∃ W8, W7.setRow (w.heap.size + 1 + 1 + 1) v'.cells = W8 := ⟨_, rfl⟩
  obtain ⟨W9, hW9⟩ : ∃ W9, W8.setRow (w.heap.size + 1 + 1 + 1 + 1) t.cells = W9 := ⟨_, rfl⟩
  have g7 : Agrees (fun b => b ≠ w.heap.size + 1 + 1) W6 W7 := by rw [← hW7]; exact (Agrees.refl _ _).setRow (.inl fun h => h rfl) _
  have g8 : Agrees (fun b => b ≠ w.heap.size + 1 + 1 + 1) W7 W8 := by rw [← hW8]; exact (Agrees.refl _ _).setRow (.inl fun h => h rfl) _
  have g9 : Agrees (fun b => b ≠ w.heap.size + 1 + 1 + 1 + 1) W8 W9 := by rw [← hW9]; exact (Agrees.refl _ _).setRow (.inl fun h => h rfl) _
  have H2 := Lib.hid (k6 HR2.out)
  have h37 := (g7.block _ (Array.getElem?_eq_some_iff.1 (k6 HR3.out)).1 (by omega)).trans (k6 HR3.out)
  have h47 := (g7.block _ (Array.getElem?_eq_some_iff.1 (k6 HR4.out)).1 (by omega)).trans (k6 HR4.out)
  have h48 := (g8.block _ (Array.getElem?_eq_some_iff.1 h47).1 (by omega)).trans h47
  have h27 : W7.heap[w.heap.size + 1 + 1]? = some (.cells (pageCells pg) 32 (0, 0)) := by rw [← hW7]; exact setRow_heap _ _ _ _ _ _ H2.out
  have h28 := (g8.block _ (Array.getElem?_eq_some_iff.1 h27).1 (by omega)).trans h27
  have h29 := (g9.block _ (Array.getElem?_eq_some_iff.1 h28).1 (by omega)).trans h28
  have h38 : W8.heap[w.heap.size + 1 + 1 + 1]? = some (.cells v'.cells 40 (0, 0)) := by rw [← hW8]; exact setRow_heap _ _ _ _ _ _ h37
  have h39 := (g9.block _ (Array.getElem?_eq_some_iff.1 h38).1 (by omega)).trans h38
  have h49 : W9.heap[w.heap.size + 1 + 1 + 1 + 1]? = some (.cells t.cells 57 (0, 0)) := by rw [← hW9]; exact setRow_heap _ _ _ _ _ _ h48
  have HF := Lib.hid (show LookTo R0 w (pg, P', t, er) (.returned (.tuple #[.agg (pageCells pg), .agg v'.cells, .agg t.cells, .int .i64 er])) W9 from by
    have hg : Agrees (fun b => b < w.heap.size + 1 + 1 ∨ w.heap.size + 1 + 1 + 1 + 1 < b) W6 W9 := ((g7.mono fun b _ hb => by omega).trans (g8.mono fun b _ hb => by omega)).trans (g9.mono fun b _ hb => by omega)
    have hs5 := HS5.out
    refine ⟨v', rfl, ?_, ?_⟩
    · exact (hP6.agrees hg fun b hb => by omega).mono fun b hb => hb.elim (fun h => .inl h.1) (fun h => .inr (by omega))
    · exact ((HA5.out.trans hg6).weak (R := fun b => b < w.heap.size)).trans' hg (fun b hb _ => by omega) |>.mono fun b hb _ => hb)
  have H37 := Lib.hid h37
  have H48 := Lib.hid h48
  have H29 := Lib.hid h29
  have H39 := Lib.hid h39
  have H49 := Lib.hid h49
  clear hP6 hg6 k6 g7 g8 g9 h37 h47 h48 h27 h28 h29 h38 h39 h49 HL HR0 HR1 HR2 HR3 HR4 HA5 HLL
  go_wp2_with (first
    | (refine wpList_unit rfl (ex_storeAll (ty := 32) rfl isAgg_page.2 (w.heap.size + 1 + 1) rfl (pageCells pg) (pageCells noPage) rfl HPS.out H2.out HPN.out (pageCells_one _)) ?_; rw [hW7])
    | (refine wpList_unit rfl (ex_storeAll (ty := 40) rfl isAgg_pair.2 (w.heap.size + 1 + 1 + 1) rfl v'.cells PV.zero.cells rfl rfl H37.out rfl (PV.one _)) ?_; rw [hW8])
    | (refine wpList_unit rfl (ex_storeAll (ty := 57) rfl isAgg_tally.2 (w.heap.size + 1 + 1 + 1 + 1) rfl t.cells (Tal.mk 0 0 0).cells rfl rfl H48.out rfl (Tal.one _)) ?_; rw [hW9]))
  exact bodyPost_ret (results_a3t1 rfl _ (b := w.heap.size + 1 + 1) (c := w.heap.size + 1 + 1 + 1) (d := w.heap.size + 1 + 1 + 1 + 1) (x := .int .i64 er) rfl rfl rfl isAgg_page (v1 := pageCells pg) HPS.out (fun j _ => by rw [Nat.zero_add]; exact cell_of_row _ _ _ _ _ _ H29.out) isAgg_pair (v2 := v'.cells) rfl (PV.load _ H39.out)
    isAgg_tally (v3 := t.cells) rfl (fun j _ => by rw [Nat.zero_add]; exact cell_of_row _ _ _ _ _ _ H49.out) rfl) rfl HF.out

set_option maxHeartbeats 2000000 in
set_option maxRecDepth 100000 in
theorem fscan_calls (R0 : Nat → Prop) (v : PV) (P : Pair) (x : Ptr) (hx : x.ok) (w : World) (hv : PairAt R0 w v P) (hlow : P.low) :
    Calls Try.prog 23 #[.agg v.cells, .agg x.cells] w (LookTo R0 w (P.look x true)) := by
  obtain ⟨W1, W2, W3, W4, W5, hW1, hW2, hW3, hW4, hW5, hs1, hs2, hs3, hs4, hs5, hA5, hr0, hr1, hr2, hr3, hr4⟩ := rows5 w (.cells v.cells 40) (.cells x.cells 48) (.cells (pageCells noPage) 32) (.cells PV.zero.cells 40) (.cells (Tal.mk 0 0 0).cells 57)
  have HL := Lib.hid (look_calls _ v P x true hx W5 (hv.both.agrees hA5 fun _ _ => trivial) hlow)
  have HLL := Lib.hid (P.look_len x true fun c => Disk.read_len _ (hv.disk _).ok _)
  have HA5 := Lib.hid hA5
  have HR0 := Lib.hid hr0
  have HR1 := Lib.hid hr1
  have HR2 := Lib.hid hr2
  have HR3 := Lib.hid hr3
  have HR4 := Lib.hid hr4
  have HS5 := Lib.hid hs5
  clear hv hA5 hr0 hr1 hr2 hr3 hr4 hs5
  go_enter Try.func23, Try.ntmps23
  go_wp2_with (first
    | (refine wpList_val rfl (ex_alloc rfl (.agg (pageCells noPage)) zero_page) ?_; rw [show (Value.agg (pageCells noPage)).cells = pageCells noPage from rfl, hW3, hs2])
    | (refine wpList_val rfl (ex_alloc rfl (.agg PV.zero.cells) zero_pair) ?_; rw [show (Value.agg PV.zero.cells).cells = PV.zero.cells from rfl, hW4, hs3])
    | (refine wpList_val rfl (ex_alloc rfl (.agg (Tal.mk 0 0 0).cells) zero_tally) ?_; rw [show (Value.agg (Tal.mk 0 0 0).cells).cells = (Tal.mk 0 0 0).cells from rfl, hW5, hs4])
    | (refine wpList_val rfl (ex_load (ty := 40) rfl isAgg_pair w.heap.size 0 rfl v.cells rfl (v.load HR0.out)) ?_)
    | (refine wpList_val rfl (ex_load (ty := 48) rfl isAgg_ptr (w.heap.size + 1) 0 rfl x.cells rfl (x.load HR1.out)) ?_))
  refine HL.out.mono ?_
  rintro e W6 ⟨v', rfl, hP6, hg6⟩
  generalize P.look x true = r at *
  obtain ⟨pg, P', t, er⟩ := r
  simp only at hP6 HLL ⊢
  have HPS := Lib.hid (show (pageCells pg).size = 256 by rw [pageCells_size]; exact HLL.out)
  have HPN := Lib.hid (show (pageCells noPage).size = 256 by rw [pageCells_size]; exact noPage_len)
  have k6 : ∀ {b : Nat} {o : Obj}, W5.heap[b]? = some o → W6.heap[b]? = some o := fun h => (hg6.block _ (Array.getElem?_eq_some_iff.1 h).1 trivial).trans h
  obtain ⟨W7, hW7⟩ : ∃ W7, W6.setRow (w.heap.size + 1 + 1) (pageCells pg) = W7 := ⟨_, rfl⟩
  obtain ⟨W8, hW8⟩ : ∃ W8, W7.setRow (w.heap.size + 1 + 1 + 1) v'.cells = W8 := ⟨_, rfl⟩
  obtain ⟨W9, hW9⟩ : ∃ W9, W8.setRow (w.heap.size + 1 + 1 + 1 + 1) t.cells = W9 := ⟨_, rfl⟩
  have g7 : Agrees (fun b => b ≠ w.heap.size + 1 + 1) W6 W7 := by rw [← hW7]; exact (Agrees.refl _ _).setRow (.inl fun h => h rfl) _
  have g8 : Agrees (fun b => b ≠ w.heap.size + 1 + 1 + 1) W7 W8 := by rw [← hW8]; exact (Agrees.refl _ _).setRow (.inl fun h => h rfl) _
  have g9 : Agrees (fun b => b ≠ w.heap.size + 1 + 1 + 1 + 1) W8 W9 := by rw [← hW9]; exact (Agrees.refl _ _).setRow (.inl fun h => h rfl) _
  have H2 := Lib.hid (k6 HR2.out)
  have h37 := (g7.block _ (Array.getElem?_eq_some_iff.1 (k6 HR3.out)).1 (by omega)).trans (k6 HR3.out)
  have h47 := (g7.block _ (Array.getElem?_eq_some_iff.1 (k6 HR4.out)).1 (by omega)).trans (k6 HR4.out)
  have h48 := (g8.block _ (Array.getElem?_eq_some_iff.1 h47).1 (by omega)).trans h47
  have h27 : W7.heap[w.heap.size + 1 + 1]? = some (.cells (pageCells pg) 32 (0, 0)) := by rw [← hW7]; exact setRow_heap _ _ _ _ _ _ H2.out
  have h28 := (g8.block _ (Array.getElem?_eq_some_iff.1 h27).1 (by omega)).trans h27
  have h29 := (g9.block _ (Array.getElem?_eq_some_iff.1 h28).1 (by omega)).trans h28
  have h38 : W8.heap[w.heap.size + 1 + 1 + 1]? = some (.cells v'.cells 40 (0, 0)) := by rw [← hW8]; exact setRow_heap _ _ _ _ _ _ h37
  have h39 := (g9.block _ (Array.getElem?_eq_some_iff.1 h38).1 (by omega)).trans h38
  have h49 : W9.heap[w.heap.size + 1 + 1 + 1 + 1]? = some (.cells t.cells 57 (0, 0)) := by rw [← hW9]; exact setRow_heap _ _ _ _ _ _ h48
  have HF := Lib.hid (show LookTo R0 w (pg, P', t, er) (.returned (.tuple #[.agg (pageCells pg), .agg v'.cells, .agg t.cells, .int .i64 er])) W9 from by
    have hg : Agrees (fun b => b < w.heap.size + 1 + 1 ∨ w.heap.size + 1 + 1 + 1 + 1 < b) W6 W9 := ((g7.mono fun b _ hb => by omega).trans (g8.mono fun b _ hb => by omega)).trans (g9.mono fun b _ hb => by omega)
    have hs5 := HS5.out
    refine ⟨v', rfl, ?_, ?_⟩
    · exact (hP6.agrees hg fun b hb => by omega).mono fun b hb => hb.elim (fun h => .inl h.1) (fun h => .inr (by omega))
    · exact ((HA5.out.trans hg6).weak (R := fun b => b < w.heap.size)).trans' hg (fun b hb _ => by omega) |>.mono fun b hb _ => hb)
  have H37 := Lib.hid h37
  have H48 := Lib.hid h48
  have H29 := Lib.hid h29
  have H39 := Lib.hid h39
  have H49 := Lib.hid h49
  clear hP6 hg6 k6 g7 g8 g9 h37 h47 h48 h27 h28 h29 h38 h39 h49 HL HR0 HR1 HR2 HR3 HR4 HA5 HLL
  go_wp2_with (first
    | (refine wpList_unit rfl (ex_storeAll (ty := 32) rfl isAgg_page.2 (w.heap.size + 1 + 1) rfl (pageCells pg) (pageCells noPage) rfl HPS.out H2.out HPN.out (pageCells_one _)) ?_; rw [hW7])
    | (refine wpList_unit rfl (ex_storeAll (ty := 40) rfl isAgg_pair.2 (w.heap.size + 1 + 1 + 1) rfl v'.cells PV.zero.cells rfl rfl H37.out rfl (PV.one _)) ?_; rw [hW8])
    | (refine wpList_unit rfl (ex_storeAll (ty := 57) rfl isAgg_tally.2 (w.heap.size + 1 + 1 + 1 + 1) rfl t.cells (Tal.mk 0 0 0).cells rfl rfl H48.out rfl (Tal.one _)) ?_; rw [hW9]))
  exact bodyPost_ret (results_a3t1 rfl _ (b := w.heap.size + 1 + 1) (c := w.heap.size + 1 + 1 + 1) (d := w.heap.size + 1 + 1 + 1 + 1) (x := .int .i64 er) rfl rfl rfl isAgg_page (v1 := pageCells pg) HPS.out (fun j _ => by rw [Nat.zero_add]; exact cell_of_row _ _ _ _ _ _ H29.out) isAgg_pair (v2 := v'.cells) rfl (PV.load _ H39.out)
    isAgg_tally (v3 := t.cells) rfl (fun j _ => by rw [Nat.zero_add]; exact cell_of_row _ _ _ _ _ _ H49.out) rfl) rfl HF.out
end Suture
/-
  THE DOCUMENT'S ANSWER FOR POINTERS: sutureref05.Sum, Meta, Fits; sutureref10.Burn.
  Conditions: none beyond each theorem's own.
-/
namespace Suture
open Go Go.RowKit Go.Proofs
attribute [local go_sem] Oper.semAt_some

set_option maxHeartbeats 400000 in
theorem rmeta_calls (x : Ptr) (w : World) : Calls Try.prog 41 #[.agg x.cells] w fun e w' => e = .returned (.bool x.isMeta) ∧ Agrees All w w' := by
  obtain ⟨kd, a0, a1, bi, su⟩ := x
  simp only [Ptr.cells, Ptr.isMeta]
  go_enter Try.func41, Try.ntmps41
  go_wp2
  all_goals
    go_ret
    exact ⟨by simp_all, (Agrees.refl _ w).alloc _⟩
set_option maxHeartbeats 1000000 in
theorem rsum_calls (p : List (BitVec 8)) (hl : p.length = 256) (w : World) : Calls Try.prog 38 #[.agg (pageCells p)] w fun e w' => e = .returned (U (sum p)) ∧ Agrees All w w' := by
  have hA : Agrees All w (w.alloc (.cells (pageCells p) 32)) := (Agrees.refl _ w).alloc _
  have HR := Lib.hid (World.alloc_heap_new w (.cells (pageCells p) 32))
  have HS := Lib.hid (refPage_calls p hl (w.alloc (.cells (pageCells p) 32)))
  have HA := Lib.hid hA
  have HP := Lib.hid (show (pageCells p).size = 256 by rw [pageCells_size, hl])
  clear hA
  go_enter Try.func38, Try.ntmps38
  go_wp2_with (refine wpList_val rfl (ex_load (ty := 32) rfl isAgg_page w.heap.size 0 rfl (pageCells p) HP.out (fun j _ => by rw [Nat.zero_add]; exact cell_of_row _ _ _ _ _ _ HR.out)) ?_)
  refine HS.out.mono ?_
  rintro e w' ⟨rfl, hag⟩
  have HF := Lib.hid (HA.out.trans hag)
  clear hag
  go_wp2_with fail
  go_ret
  exact ⟨rfl, HF.out⟩

set_option maxHeartbeats 2000000 in
set_option maxRecDepth 100000 in
theorem rfits_calls1 (x : Ptr) (p : List (BitVec 8)) (hl : p.length = 256) (hk : x.kd ≠ 0) (w : World) : Calls Try.prog 18 #[.agg x.cells, .agg (pageCells p)] w fun e w' => e = .returned (.bool (x.fits p)) ∧ Agrees All w w' := by
  obtain ⟨W1, hW1⟩ : ∃ W1, (w.alloc (.cells x.cells 48)).alloc (.cells (pageCells p) 32) = W1 := ⟨_, rfl⟩
  have hA : Agrees All w W1 := by rw [← hW1]; exact ((Agrees.refl _ w).alloc _).alloc _
  have hpr : W1.heap[w.heap.size]? = some (.cells x.cells 48 (0, 0)) := by rw [← hW1, heap_alloc_old _ _ (by simp)]; exact World.alloc_heap_new w _
  have hgr : W1.heap[w.heap.size + 1]? = some (.cells (pageCells p) 32 (0, 0)) := by
    rw [← hW1]; have := World.alloc_heap_new (w.alloc (.cells x.cells 48)) (.cells (pageCells p) 32); rwa [World.size_alloc] at this
  have HA := Lib.hid hA
  have HP := Lib.hid hpr
  have HG := Lib.hid hgr
  clear hA hpr hgr
  go_enter Try.func18, Try.ntmps18
  go_wp2_with fail
  obtain ⟨kd, a0, a1, bi, su⟩ := x
  obtain ⟨W0, hW0⟩ : ∃ W0, W1.drew = W0 := ⟨_, rfl⟩
  have hpr : W0.heap[w.heap.size]? = some (.cells (Ptr.mk kd a0 a1 bi su).cells 48 (0, 0)) := by rw [← hW0]; exact HP.out
  have hgr : W0.heap[w.heap.size + 1]? = some (.cells (pageCells p) 32 (0, 0)) := by rw [← hW0]; exact HG.out
  have hA0 : Agrees All w W0 := by rw [← hW0]; exact HA.out.drew
  have hpl := (Array.getElem?_eq_some_iff.1 hpr).1
  have hgl := (Array.getElem?_eq_some_iff.1 hgr).1
  have hkd : (kd != 0) = true := by simpa using hk
  refine wp_region_plan (by kernel_rfl) ?hok (by kernel_rfl) (vFits1 kd su p w.heap.size) (fun _ _ W => Agrees All W0 W) ?h0 (fun i hi => ?steps) ?hend
  case hok => kernel_rfl
  case h0 => exact fun vals => by rw [← hW0]; exact Agrees.refl _ _
  case steps =>
    generalize w.heap.size + 1 = gb at *
    generalize w.heap.size = pb at *
    have hi' : i < 11 := hi
    match i, hi' with
    | 0, _ =>
      refine steps_of rfl ?_
      intro L aq wq hL hd st wi
      have o2 := st.outside (t := 2) rfl (v := .pointer (some ⟨pb, 0, none⟩)) rfl
      exact opTo_val (v := .pointer (some ⟨pb, 0 + 0, none⟩)) rfl (by simp [go_sem, Act.eval, o2]) ⟨(fun h => by cases h), rfl, wi⟩
    | 1, _ =>
      refine steps_of rfl ?_
      intro L aq wq hL hd st wi
      obtain ⟨u0, e0, V0⟩ := st.val 0 _ _ rfl rfl (hd ⟨0, .data⟩ (by simp) rfl)
      obtain rfl : .pointer (some ⟨pb, 0 + 0, none⟩) = u0 := V0.symm
      exact opTo_val (v := .int .u8 kd) rfl (ex_load1 rfl oneU8 (eval_tmp e0) (by rw [cell_of_row wq _ _ _ _ _ ((wi.block pb hpl trivial).trans hpr)]; rfl)) ⟨(fun h => by cases h), rfl, wi⟩
    | 2, _ =>
      refine steps_of rfl ?_
      intro L aq wq hL hd st wi
      obtain ⟨u1, e1, V1⟩ := st.val 1 _ _ rfl rfl (hd ⟨1, .data⟩ (by simp) rfl)
      obtain rfl : .int .u8 kd = u1 := V1.symm
      exact opTo_val (v := .bool true) rfl (by simp [go_sem, Act.eval, e1, hkd]) ⟨(fun h => by cases h), rfl, wi⟩
    | 3, _ =>
      refine steps_of rfl ?_
      intro L aq wq hL hd st wi
      obtain ⟨u2, e2, V2⟩ := st.val 2 _ _ rfl rfl (hd ⟨2, .data⟩ (by simp) rfl)
      obtain rfl : .bool true = u2 := V2.symm
      exact opTo_val (v := .bool true) rfl (ex_move (.inl rfl) (eval_tmp e2)) ⟨(fun h => by cases h), rfl, wi⟩
    | 4, _ =>
      refine steps_of rfl ?_
      intro L aq wq hL hd st wi
      have o2 := st.outside (t := 2) rfl (v := .pointer (some ⟨pb, 0, none⟩)) rfl
      obtain ⟨u3, e3, V3⟩ := st.val 3 _ _ rfl rfl (hd ⟨3, .guard⟩ (by simp) rfl)
      obtain rfl : .bool true = u3 := V3.symm
      exact opTo_val (v := .pointer (some ⟨pb, 0 + 4, none⟩)) (by simp [Region.wanted, yielded, e3]) (by simp [go_sem, Act.eval, o2]) ⟨(fun h => by cases h), rfl, wi⟩
    | 5, _ =>
      refine steps_of rfl ?_
      intro L aq wq hL hd st wi
      obtain ⟨u4, e4, V4⟩ := st.val 4 _ _ rfl rfl (hd ⟨4, .data⟩ (by simp) rfl)
      obtain rfl : .pointer (some ⟨pb, 0 + 4, none⟩) = u4 := V4.symm
      obtain ⟨u3, e3, V3⟩ := st.val 3 _ _ rfl rfl (hd ⟨3, .guard⟩ (by simp) rfl)
      obtain rfl : .bool true = u3 := V3.symm
      exact opTo_val (v := U su) (by simp [Region.wanted, yielded, e3]) (ex_load1 rfl oneU64 (eval_tmp e4) (by rw [cell_of_row wq _ _ _ _ _ ((wi.block pb hpl trivial).trans hpr)]; rfl)) ⟨(fun h => by cases h), rfl, wi⟩
    | 6, _ =>
      refine steps_of rfl ?_
      intro L aq wq hL hd st wi
      have o3 := st.outside (t := 3) rfl (v := .pointer (some ⟨gb, 0, none⟩)) rfl
      obtain ⟨u3, e3, V3⟩ := st.val 3 _ _ rfl rfl (hd ⟨3, .guard⟩ (by simp) rfl)
      obtain rfl : .bool true = u3 := V3.symm
      exact opTo_val (v := .agg (pageCells p)) (by simp [Region.wanted, yielded, e3]) (ex_load rfl isAgg_page gb 0 (eval_tmp o3) (pageCells p) (by rw [pageCells_size]; exact hl) (fun j _ => by rw [Nat.zero_add]; exact cell_of_row wq _ _ _ _ _ ((wi.block gb hgl trivial).trans hgr))) ⟨(fun h => by cases h), rfl, wi⟩
    | 7, _ =>
      refine steps_of rfl ?_
      intro L aq wq hL hd st wi
      obtain ⟨u6, e6, V6⟩ := st.val 6 _ _ rfl rfl (hd ⟨6, .data⟩ (by simp) rfl)
      obtain rfl : .agg (pageCells p) = u6 := V6.symm
      obtain ⟨u3, e3, V3⟩ := st.val 3 _ _ rfl rfl (hd ⟨3, .chain⟩ (by simp) rfl)
      obtain rfl : .bool true = u3 := V3.symm
      refine opTo_call (w' := wq) (f := 38) (args := #[.agg (pageCells p)]) (by simp [Region.wanted, yielded, e3]) (by simp [go_sem, Act.eval, e6]) ((rsum_calls p hl wq).mono ?_)
      rintro e w' ⟨rfl, hag⟩
      exact ⟨_, rfl, (fun h => by cases h), rfl, wi.trans hag⟩
    | 8, _ =>
      refine steps_of rfl ?_
      intro L aq wq hL hd st wi
      obtain ⟨u5, e5, V5⟩ := st.val 5 _ _ rfl rfl (hd ⟨5, .data⟩ (by simp) rfl)
      obtain rfl : U su = u5 := V5.symm
      obtain ⟨u7, e7, V7⟩ := st.val 7 _ _ rfl rfl (hd ⟨7, .data⟩ (by simp) rfl)
      obtain rfl : U (sum p) = u7 := V7.symm
      obtain ⟨u3, e3, V3⟩ := st.val 3 _ _ rfl rfl (hd ⟨3, .guard⟩ (by simp) rfl)
      obtain rfl : .bool true = u3 := V3.symm
      exact opTo_val (v := .bool (su == sum p)) (by simp [Region.wanted, yielded, e3]) (by simp [go_sem, Act.eval, e5, e7]) ⟨(fun h => by cases h), rfl, wi⟩
    | 9, _ =>
      refine steps_of rfl ?_
      intro L aq wq hL hd st wi
      obtain ⟨u3, e3, V3⟩ := st.val 3 _ _ rfl rfl (hd ⟨3, .data⟩ (by simp) rfl)
      obtain rfl : .bool true = u3 := V3.symm
      obtain ⟨u8, e8, V8⟩ := st.val 8 _ _ rfl rfl (hd ⟨8, .data⟩ (by simp) rfl)
      obtain rfl : .bool (su == sum p) = u8 := V8.symm
      exact opTo_val (v := .bool (su == sum p)) rfl (by simp [go_sem, Act.eval, e3, e8]) ⟨(fun h => by cases h), rfl, wi⟩
    | 10, _ =>
      refine steps_of rfl ?_
      intro L aq wq hL hd st wi
      obtain ⟨u9, e9, V9⟩ := st.val 9 _ _ rfl rfl (hd ⟨9, .data⟩ (by simp) rfl)
      obtain rfl : .bool (su == sum p) = u9 := V9.symm
      exact opTo_val (v := .bool (su == sum p)) rfl (ex_move (.inr rfl) (eval_tmp e9)) ⟨(fun h => by cases h), rfl, wi⟩
    | (i + 11), h => omega
  case hend =>
    intro vals w' hV hW
    have HF := Lib.hid (hA0.trans hW)
    have x10 : vals 10 = .bool (su == sum p) := hV 10 _ _ rfl rfl
    simp only [putAll, Act.put, List.setIfInBounds_toArray, List.set_cons_succ, List.set_cons_zero, x10]
    clear hV hW hpr hgr HP HG hA0 HA
    go_wp2_with fail
    go_ret
    refine ⟨?_, HF.out⟩
    have e : (Ptr.mk kd a0 a1 bi su).fits p = ((kd != 0) && (su == sum p)) := rfl
    rw [e, hkd]
    rfl
set_option maxHeartbeats 2000000 in
set_option maxRecDepth 100000 in
theorem rfits_calls0 (x : Ptr) (p : List (BitVec 8)) (hk : x.kd = 0) (w : World) : Calls Try.prog 18 #[.agg x.cells, .agg (pageCells p)] w fun e w' => e = .returned (.bool (x.fits p)) ∧ Agrees All w w' := by
  obtain ⟨W1, hW1⟩ : ∃ W1, (w.alloc (.cells x.cells 48)).alloc (.cells (pageCells p) 32) = W1 := ⟨_, rfl⟩
  have hA : Agrees All w W1 := by rw [← hW1]; exact ((Agrees.refl _ w).alloc _).alloc _
  have hpr : W1.heap[w.heap.size]? = some (.cells x.cells 48 (0, 0)) := by rw [← hW1, heap_alloc_old _ _ (by simp)]; exact World.alloc_heap_new w _
  have hgr : W1.heap[w.heap.size + 1]? = some (.cells (pageCells p) 32 (0, 0)) := by
    rw [← hW1]; have := World.alloc_heap_new (w.alloc (.cells x.cells 48)) (.cells (pageCells p) 32); rwa [World.size_alloc] at this
  have HA := Lib.hid hA
  have HP := Lib.hid hpr
  have HG := Lib.hid hgr
  clear hA hpr hgr
  go_enter Try.func18, Try.ntmps18
  go_wp2_with fail
  obtain ⟨kd, a0, a1, bi, su⟩ := x
  obtain ⟨W0, hW0⟩ : ∃ W0, W1.drew = W0 := ⟨_, rfl⟩
  have hpr : W0.heap[w.heap.size]? = some (.cells (Ptr.mk kd a0 a1 bi su).cells 48 (0, 0)) := by rw [← hW0]; exact HP.out
  have hgr : W0.heap[w.heap.size + 1]? = some (.cells (pageCells p) 32 (0, 0)) := by rw [← hW0]; exact HG.out
  have hA0 : Agrees All w W0 := by rw [← hW0]; exact HA.out.drew
  have hpl := (Array.getElem?_eq_some_iff.1 hpr).1
  have hgl := (Array.getElem?_eq_some_iff.1 hgr).1
  have hkd : (kd != 0) = false := by simpa using hk
  refine wp_region_plan (by kernel_rfl) ?hok (by kernel_rfl) (vFits0 kd w.heap.size) (fun _ _ W => Agrees All W0 W) ?h0 (fun i hi => ?steps) ?hend
  case hok => kernel_rfl
  case h0 => exact fun vals => by rw [← hW0]; exact Agrees.refl _ _
  case steps =>
    generalize w.heap.size + 1 = gb at *
    generalize w.heap.size = pb at *
    have hi' : i < 11 := hi
    match i, hi' with
    | 0, _ =>
      refine steps_of rfl ?_
      intro L aq wq hL hd st wi
      have o2 := st.outside (t := 2) rfl (v := .pointer (some ⟨pb, 0, none⟩)) rfl
      exact opTo_val (v := .pointer (some ⟨pb, 0 + 0, none⟩)) rfl (by simp [go_sem, Act.eval, o2]) ⟨(fun h => by cases h), rfl, wi⟩
    | 1, _ =>
      refine steps_of rfl ?_
      intro L aq wq hL hd st wi
      obtain ⟨u0, e0, V0⟩ := st.val 0 _ _ rfl rfl (hd ⟨0, .data⟩ (by simp) rfl)
      obtain rfl : .pointer (some ⟨pb, 0 + 0, none⟩) = u0 := V0.symm
      exact opTo_val (v := .int .u8 kd) rfl (ex_load1 rfl oneU8 (eval_tmp e0) (by rw [cell_of_row wq _ _ _ _ _ ((wi.block pb hpl trivial).trans hpr)]; rfl)) ⟨(fun h => by cases h), rfl, wi⟩
    | 2, _ =>
      refine steps_of rfl ?_
      intro L aq wq hL hd st wi
      obtain ⟨u1, e1, V1⟩ := st.val 1 _ _ rfl rfl (hd ⟨1, .data⟩ (by simp) rfl)
      obtain rfl : .int .u8 kd = u1 := V1.symm
      exact opTo_val (v := .bool false) rfl (by simp [go_sem, Act.eval, e1, hkd]) ⟨(fun h => by cases h), rfl, wi⟩
    | 3, _ =>
      refine steps_of rfl ?_
      intro L aq wq hL hd st wi
      obtain ⟨u2, e2, V2⟩ := st.val 2 _ _ rfl rfl (hd ⟨2, .data⟩ (by simp) rfl)
      obtain rfl : .bool false = u2 := V2.symm
      exact opTo_val (v := .bool false) rfl (ex_move (.inl rfl) (eval_tmp e2)) ⟨(fun h => by cases h), rfl, wi⟩
    | 4, _ =>
      refine steps_of rfl ?_
      intro L aq wq hL hd st wi
      have o2 := st.outside (t := 2) rfl (v := .pointer (some ⟨pb, 0, none⟩)) rfl
      obtain ⟨u3, e3, V3⟩ := st.val 3 _ _ rfl rfl (hd ⟨3, .guard⟩ (by simp) rfl)
      obtain rfl : .bool false = u3 := V3.symm
      exact opTo_not (by simp [Region.wanted, yielded, e3]) ⟨fun _ => rfl, rfl, wi⟩
    | 5, _ =>
      refine steps_of rfl ?_
      intro L aq wq hL hd st wi
      obtain ⟨u4, e4, V4⟩ := st.val 4 _ _ rfl rfl (hd ⟨4, .data⟩ (by simp) rfl)
      obtain rfl : undef = u4 := V4.symm
      obtain ⟨u3, e3, V3⟩ := st.val 3 _ _ rfl rfl (hd ⟨3, .guard⟩ (by simp) rfl)
      obtain rfl : .bool false = u3 := V3.symm
      exact opTo_not (by simp [Region.wanted, yielded, e3]) ⟨fun _ => rfl, rfl, wi⟩
    | 6, _ =>
      refine steps_of rfl ?_
      intro L aq wq hL hd st wi
      have o3 := st.outside (t := 3) rfl (v := .pointer (some ⟨gb, 0, none⟩)) rfl
      obtain ⟨u3, e3, V3⟩ := st.val 3 _ _ rfl rfl (hd ⟨3, .guard⟩ (by simp) rfl)
      obtain rfl : .bool false = u3 := V3.symm
      exact opTo_not (by simp [Region.wanted, yielded, e3]) ⟨fun _ => rfl, rfl, wi⟩
    | 7, _ =>
      refine steps_of rfl ?_
      intro L aq wq hL hd st wi
      obtain ⟨u6, e6, V6⟩ := st.val 6 _ _ rfl rfl (hd ⟨6, .data⟩ (by simp) rfl)
      obtain rfl : undef = u6 := V6.symm
      obtain ⟨u3, e3, V3⟩ := st.val 3 _ _ rfl rfl (hd ⟨3, .chain⟩ (by simp) rfl)
      obtain rfl : .bool false = u3 := V3.symm
      exact opTo_not (by simp [Region.wanted, yielded, e3]) ⟨fun _ => rfl, rfl, wi⟩
    | 8, _ =>
      refine steps_of rfl ?_
      intro L aq wq hL hd st wi
      obtain ⟨u5, e5, V5⟩ := st.val 5 _ _ rfl rfl (hd ⟨5, .data⟩ (by simp) rfl)
      obtain rfl : undef = u5 := V5.symm
      obtain ⟨u7, e7, V7⟩ := st.val 7 _ _ rfl rfl (hd ⟨7, .data⟩ (by simp) rfl)
      obtain rfl : undef = u7 := V7.symm
      obtain ⟨u3, e3, V3⟩ := st.val 3 _ _ rfl rfl (hd ⟨3, .guard⟩ (by simp) rfl)
      obtain rfl : .bool false = u3 := V3.symm
      exact opTo_not (by simp [Region.wanted, yielded, e3]) ⟨fun _ => rfl, rfl, wi⟩
    | 9, _ =>
      refine steps_of rfl ?_
      intro L aq wq hL hd st wi
      obtain ⟨u3, e3, V3⟩ := st.val 3 _ _ rfl rfl (hd ⟨3, .data⟩ (by simp) rfl)
      obtain rfl : .bool false = u3 := V3.symm
      obtain ⟨u8, e8, V8⟩ := st.val 8 _ _ rfl rfl (hd ⟨8, .data⟩ (by simp) rfl)
      obtain rfl : undef = u8 := V8.symm
      exact opTo_val (v := .bool false) rfl (by simp [go_sem, Act.eval, e3]) ⟨(fun h => by cases h), rfl, wi⟩
    | 10, _ =>
      refine steps_of rfl ?_
      intro L aq wq hL hd st wi
      obtain ⟨u9, e9, V9⟩ := st.val 9 _ _ rfl rfl (hd ⟨9, .data⟩ (by simp) rfl)
      obtain rfl : .bool false = u9 := V9.symm
      exact opTo_val (v := .bool false) rfl (ex_move (.inr rfl) (eval_tmp e9)) ⟨(fun h => by cases h), rfl, wi⟩
    | (i + 11), h => omega
  case hend =>
    intro vals w' hV hW
    have HF := Lib.hid (hA0.trans hW)
    have x10 : vals 10 = .bool false := hV 10 _ _ rfl rfl
    simp only [putAll, Act.put, List.setIfInBounds_toArray, List.set_cons_succ, List.set_cons_zero, x10]
    clear hV hW hpr hgr HP HG hA0 HA
    go_wp2_with fail
    go_ret
    refine ⟨?_, HF.out⟩
    rfl



theorem rfits_calls (x : Ptr) (p : List (BitVec 8)) (hl : p.length = 256) (w : World) : Calls Try.prog 18 #[.agg x.cells, .agg (pageCells p)] w fun e w' => e = .returned (.bool (x.fits p)) ∧ Agrees All w w' := by
  by_cases hk : x.kd = 0
  · exact rfits_calls0 x p hk w
  · exact rfits_calls1 x p hl hk w

set_option maxHeartbeats 2000000 in
theorem rburn_calls (v : PV) (hf : in64 v.fuse) (w : World) :
    Calls Try.prog 42 #[.agg v.cells] w fun e w' => e = .returned (.tuple #[.agg v.burn.cells, .bool (burnF v.fuse v.down).2.2]) ∧ Agrees All w w' := by
  obtain ⟨W1, hW1⟩ : ∃ W1, w.alloc (.cells v.cells 40) = W1 := ⟨_, rfl⟩
  obtain ⟨W2, hW2⟩ : ∃ W2, W1.alloc (.cells PV.zero.cells 40) = W2 := ⟨_, rfl⟩
  have hs1 : W1.heap.size = w.heap.size + 1 := by rw [← hW1]; simp
  have hA2 : Agrees All w W2 := by rw [← hW2, ← hW1]; exact ((Agrees.refl _ w).alloc _).alloc _
  have hr0 : W2.heap[w.heap.size]? = some (.cells v.cells 40 (0, 0)) := by
    rw [← hW2, heap_alloc_old _ _ (by omega), ← hW1]; exact World.alloc_heap_new w _
  have hr1 : W2.heap[w.heap.size + 1]? = some (.cells PV.zero.cells 40 (0, 0)) := by
    rw [← hW2, ← hs1]; exact World.alloc_heap_new W1 _
  obtain ⟨⟨pa, pn, pc, ca, cn, cc, ba, bn, bc, off⟩, ⟨pa', pn', pc', ca', cn', cc', ba', bn', bc', off'⟩, f, dn⟩ := v
  simp only at hf
  obtain ⟨V, hV⟩ : ∃ V, V = PV.mk ⟨pa, pn, pc, ca, cn, cc, ba, bn, bc, off⟩ ⟨pa', pn', pc', ca', cn', cc', ba', bn', bc', off'⟩ f dn := ⟨_, rfl⟩
  have c9 : W2.cell? ⟨w.heap.size, 9, none⟩ = some (.bool dn) := by rw [cell_of_row _ _ _ _ _ _ hr0]; rfl
  have c8 : W2.cell? ⟨w.heap.size, 8, none⟩ = some (.int .i64 f) := by rw [cell_of_row _ _ _ _ _ _ hr0]; rfl
  have f9 : W2.frozen? ⟨w.heap.size, 9, none⟩ = false := frozen_of_row _ _ _ _ _ hr0
  have f8 : W2.frozen? ⟨w.heap.size, 8, none⟩ = false := frozen_of_row _ _ _ _ _ hr0
  rw [← hV] at hr0 hW1 ⊢
  have hfin : ∀ (U : PV) (W : World), Agrees (fun b => b ≠ w.heap.size) W2 W → W.heap[w.heap.size]? = some (.cells U.cells 40 (0, 0)) →
      W.heap[w.heap.size + 1]? = some (.cells PV.zero.cells 40 (0, 0)) ∧ (W.setRow (w.heap.size + 1) U.cells).heap[w.heap.size + 1]? = some (.cells U.cells 40 (0, 0)) ∧ Agrees All w (W.setRow (w.heap.size + 1) U.cells) := fun U W h hr => by
    have h1 := (h.block _ (Array.getElem?_eq_some_iff.1 hr1).1 (by omega)).trans hr1
    exact ⟨h1, setRow_heap _ _ _ _ _ _ h1, (((hA2.weak (R := fun b => b < w.heap.size)).trans' h (fun b hb _ => by omega)).mono fun b hb _ => hb).setRow (.inr (by omega)) _⟩
  have HF := Lib.hid hfin
  have HR0 := Lib.hid hr0
  clear hr0 hr1 hA2 hfin
  cases dn
  · by_cases h0 : f = 0
    · obtain ⟨W3, hW3⟩ : ∃ W3, W2.setCell ⟨w.heap.size, 9, none⟩ (.bool true) = W3 := ⟨_, rfl⟩
      have HV : RowKit.Hid (V.burn.cells = (V.cells.setIfInBounds 9 (.bool true)) ∧ (burnF V.fuse V.down).2.2 = false) := by
        rw [hV]; subst h0; exact Lib.hid ⟨rfl, rfl⟩
      have h3 : W3.heap[w.heap.size]? = some (.cells V.burn.cells 40 (0, 0)) := by
        rw [HV.out.1, ← hW3]; exact heap_setCell_same _ _ _ _ _ _ HR0.out
      have H3 := Lib.hid h3
      obtain ⟨hz, hrow, hag⟩ := HF.out V.burn W3 (by rw [← hW3]; exact (Agrees.refl _ _).setCell (.inl (fun h => h rfl)) _) h3
      have HZ := Lib.hid hz
      have HROW := Lib.hid hrow
      have HAG := Lib.hid hag
      generalize V.burn = U at *
      clear hz hrow hag h3 hV
      go_enter Try.func42, Try.ntmps42
      go_wp2_with (first | (refine wpList_val rfl (ex_alloc rfl (.agg PV.zero.cells) zero_pair) ?_; rw [show (Value.agg PV.zero.cells).cells = PV.zero.cells from rfl, hW2, hs1]) | (refine wpList_val rfl (ex_load (ty := 40) rfl isAgg_pair w.heap.size 0 rfl U.cells rfl (U.load H3.out)) ?_) | (refine wpList_unit rfl (ex_storeAll (ty := 40) rfl isAgg_pair.2 (w.heap.size + 1) rfl U.cells PV.zero.cells rfl rfl HZ.out rfl U.one) ?_))
      refine bodyPost_ret (results_a1t1' rfl _ (b := w.heap.size + 1) rfl isAgg_pair (vs := U.cells) rfl (U.load HROW.out) rfl) rfl ⟨?_, HAG.out⟩
      rw [HV.out.2]; rfl
    · by_cases h1 : 0 < f
      · obtain ⟨W3, hW3⟩ : ∃ W3, W2.setCell ⟨w.heap.size, 8, none⟩ (.int .i64 (f - 1)) = W3 := ⟨_, rfl⟩
        have hwk : IntKind.i64.wrap (f - 1) = f - 1 := by rw [IntKind.wrap_i64]; unfold in64 at hf; omega
        have HV : RowKit.Hid (V.burn.cells = (V.cells.setIfInBounds 8 (.int .i64 (f - 1))) ∧ (burnF V.fuse V.down).2.2 = true) := by
          rw [hV]; refine Lib.hid ?_; simp [PV.burn, burnF, h0, h1, PV.cells]
        have h3 : W3.heap[w.heap.size]? = some (.cells V.burn.cells 40 (0, 0)) := by
          rw [HV.out.1, ← hW3]; exact heap_setCell_same _ _ _ _ _ _ HR0.out
        have H3 := Lib.hid h3
        obtain ⟨hz, hrow, hag⟩ := HF.out V.burn W3 (by rw [← hW3]; exact (Agrees.refl _ _).setCell (.inl (fun h => h rfl)) _) h3
        have HZ := Lib.hid hz
        have HROW := Lib.hid hrow
        have HAG := Lib.hid hag
        generalize V.burn = U at *
        clear hz hrow hag h3 hV
        go_enter Try.func42, Try.ntmps42
        go_wp2_with (first | (refine wpList_val rfl (ex_alloc rfl (.agg PV.zero.cells) zero_pair) ?_; rw [show (Value.agg PV.zero.cells).cells = PV.zero.cells from rfl, hW2, hs1]) | (refine wpList_val rfl (ex_load (ty := 40) rfl isAgg_pair w.heap.size 0 rfl U.cells rfl (U.load H3.out)) ?_) | (refine wpList_unit rfl (ex_storeAll (ty := 40) rfl isAgg_pair.2 (w.heap.size + 1) rfl U.cells PV.zero.cells rfl rfl HZ.out rfl U.one) ?_))
        refine bodyPost_ret (results_a1t1' rfl _ (b := w.heap.size + 1) rfl isAgg_pair (vs := U.cells) rfl (U.load HROW.out) rfl) rfl ⟨?_, HAG.out⟩
        rw [HV.out.2]; rfl
      · have HV : RowKit.Hid (V.burn.cells = V.cells ∧ (burnF V.fuse V.down).2.2 = true) := by
          rw [hV]; refine Lib.hid ?_; simp [PV.burn, burnF, h0, h1, PV.cells]
        have h3 : W2.heap[w.heap.size]? = some (.cells V.burn.cells 40 (0, 0)) := by
          rw [HV.out.1]; exact HR0.out
        have H3 := Lib.hid h3
        obtain ⟨hz, hrow, hag⟩ := HF.out V.burn W2 (Agrees.refl _ _) h3
        have HZ := Lib.hid hz
        have HROW := Lib.hid hrow
        have HAG := Lib.hid hag
        generalize V.burn = U at *
        clear hz hrow hag h3 hV
        go_enter Try.func42, Try.ntmps42
        go_wp2_with (first | (refine wpList_val rfl (ex_alloc rfl (.agg PV.zero.cells) zero_pair) ?_; rw [show (Value.agg PV.zero.cells).cells = PV.zero.cells from rfl, hW2, hs1]) | (refine wpList_val rfl (ex_load (ty := 40) rfl isAgg_pair w.heap.size 0 rfl U.cells rfl (U.load H3.out)) ?_) | (refine wpList_unit rfl (ex_storeAll (ty := 40) rfl isAgg_pair.2 (w.heap.size + 1) rfl U.cells PV.zero.cells rfl rfl HZ.out rfl U.one) ?_))
        refine bodyPost_ret (results_a1t1' rfl _ (b := w.heap.size + 1) rfl isAgg_pair (vs := U.cells) rfl (U.load HROW.out) rfl) rfl ⟨?_, HAG.out⟩
        rw [HV.out.2]; rfl
  · have HV : RowKit.Hid (V.burn.cells = V.cells ∧ (burnF V.fuse V.down).2.2 = false) := by
      rw [hV]; refine Lib.hid ?_; simp [PV.burn, burnF, PV.cells]
    have h3 : W2.heap[w.heap.size]? = some (.cells V.burn.cells 40 (0, 0)) := by
      rw [HV.out.1]; exact HR0.out
    have H3 := Lib.hid h3
    obtain ⟨hz, hrow, hag⟩ := HF.out V.burn W2 (Agrees.refl _ _) h3
    have HZ := Lib.hid hz
    have HROW := Lib.hid hrow
    have HAG := Lib.hid hag
    generalize V.burn = U at *
    clear hz hrow hag h3 hV
    go_enter Try.func42, Try.ntmps42
    go_wp2_with (first | (refine wpList_val rfl (ex_alloc rfl (.agg PV.zero.cells) zero_pair) ?_; rw [show (Value.agg PV.zero.cells).cells = PV.zero.cells from rfl, hW2, hs1]) | (refine wpList_val rfl (ex_load (ty := 40) rfl isAgg_pair w.heap.size 0 rfl U.cells rfl (U.load H3.out)) ?_) | (refine wpList_unit rfl (ex_storeAll (ty := 40) rfl isAgg_pair.2 (w.heap.size + 1) rfl U.cells PV.zero.cells rfl rfl HZ.out rfl U.one) ?_))
    refine bodyPost_ret (results_a1t1' rfl _ (b := w.heap.size + 1) rfl isAgg_pair (vs := U.cells) rfl (U.load HROW.out) rfl) rfl ⟨?_, HAG.out⟩
    rw [HV.out.2]; rfl
end Suture
/-
  THE DOCUMENT'S ANSWER FOR POINTERS: sutureref05.Of.
  Conditions: none.
-/
namespace Suture
open Go Go.RowKit Go.Proofs
attribute [local go_sem] Oper.semAt_some

theorem Agrees.young {w A B : World} {R : Nat → Prop} (h : Agrees All w A) (g : Agrees R A B) (hr : ∀ b, b < w.heap.size → R b) : Agrees All w B :=
  ((h.weak (R := fun b => b < w.heap.size)).trans' g fun b hb _ => hr b hb).mono fun _ hb _ => hb

def Ptr.zero : Ptr := ⟨0, 0, 0, 0, 0#64⟩
theorem Ptr.one (x : Ptr) : ∀ v ∈ x.cells, v.oneCell' = true := by
  intro v hv
  simp [Ptr.cells] at hv
  rcases hv with rfl | rfl | rfl | rfl | rfl <;> rfl
theorem zero_ptr (w : World) : (zeroValue 48).run Try.prog w = .ok (.agg Ptr.zero.cells) w := by kernel_rfl

set_option maxHeartbeats 2000000 in
set_option maxRecDepth 100000 in
theorem rof_calls (kd a b bi : Int) (p : List (BitVec 8)) (hl : p.length = 256) (w : World) :
    Calls Try.prog 16 #[.int .u8 kd, .int .i64 a, .int .i64 b, .int .u32 bi, .agg (pageCells p)] w fun e w' => e = .returned (.agg (ptrOf kd a b bi p).cells) ∧ Agrees All w w' := by
  obtain ⟨W1, hW1⟩ : ∃ W1, w.alloc (.cells (pageCells p) 32) = W1 := ⟨_, rfl⟩
  obtain ⟨W2, hW2⟩ : ∃ W2, W1.alloc (.cells Ptr.zero.cells 48) = W2 := ⟨_, rfl⟩
  have hs1 : W1.heap.size = w.heap.size + 1 := by rw [← hW1]; simp
  have hA2 : Agrees All w W2 := by rw [← hW2, ← hW1]; exact ((Agrees.refl _ w).alloc _).alloc _
  have HG := Lib.hid (show W2.heap[w.heap.size]? = some (.cells (pageCells p) 32 (0, 0)) by rw [← hW2, ← hW1]; exact row_old (row_new _ rfl))
  have HP := Lib.hid (show W2.heap[w.heap.size + 1]? = some (.cells Ptr.zero.cells 48 (0, 0)) by rw [← hW2]; exact row_new _ hs1)
  have HA := Lib.hid hA2
  have HPS := Lib.hid (show (pageCells p).size = 256 by rw [pageCells_size, hl])
  clear hA2
  go_enter Try.func16, Try.ntmps16
  go_wp2_with (first
    | (refine wpList_val rfl (ex_alloc rfl (.agg Ptr.zero.cells) zero_ptr) ?_; rw [show (Value.agg Ptr.zero.cells).cells = Ptr.zero.cells from rfl, hW2, hs1])
    | (refine wpList_val rfl (ex_load (ty := 32) rfl isAgg_page w.heap.size 0 rfl (pageCells p) HPS.out (fun j _ => by rw [Nat.zero_add]; exact cell_of_row _ _ _ _ _ _ HG.out)) ?_))
  refine (rsum_calls p hl W2).mono ?_
  rintro e W3 ⟨rfl, hag⟩
  have HA3 := Lib.hid (HA.out.trans hag)
  have hp3 := (hag.block _ (Array.getElem?_eq_some_iff.1 HP.out).1 trivial).trans HP.out
  obtain ⟨X, hX⟩ : ∃ X : Ptr, X = ⟨kd, w16 a, w16 b, bi, sum p⟩ := ⟨_, rfl⟩
  obtain ⟨W4, hW4⟩ : ∃ W4, W3.alloc (.cells Ptr.zero.cells 48) = W4 := ⟨_, rfl⟩
  obtain ⟨W5, hW5⟩ : ∃ W5, W4.setRow W3.heap.size X.cells = W5 := ⟨_, rfl⟩
  have h4 : W4.heap[W3.heap.size]? = some (.cells Ptr.zero.cells 48 (0, 0)) := by rw [← hW4]; exact row_new _ rfl
  have h5 : W5.heap[W3.heap.size]? = some (.cells X.cells 48 (0, 0)) := by rw [← hW5]; exact setRow_heap _ _ _ _ _ _ h4
  have g5 : Agrees All W3 W5 := by rw [← hW5, ← hW4]; exact ((Agrees.refl _ _).alloc _).setRow (.inr (Nat.le_refl _)) _
  have hp5 := (g5.block _ (Array.getElem?_eq_some_iff.1 hp3).1 trivial).trans hp3
  have h35 := (Array.getElem?_eq_some_iff.1 hp3).1
  have HZ4 := Lib.hid h4
  have H5 := Lib.hid h5
  have HP5 := Lib.hid hp5
  have HA5 := Lib.hid (HA3.out.trans g5)
  have HX := Lib.hid hX
  have f52 : W5.frozen? ⟨W3.heap.size, 2, none⟩ = false := frozen_of_row _ _ _ _ _ h5
  have c52 : W5.cell? ⟨W3.heap.size, 2, none⟩ = some (.int .u16 (w16 b)) := by rw [cell_of_row _ _ _ _ _ _ h5, hX]; rfl
  have HXC : RowKit.Hid (X.cells = #[.int .u8 kd, .int .u16 (w16 a), .int .u16 (w16 b), .int .u32 bi, U (sum p)]) := by rw [hX]; exact Lib.hid rfl
  have hw1 : IntKind.u16.wrap a = w16 a := rfl
  have hw2 : IntKind.u16.wrap b = w16 b := rfl
  clear hag hp3 h4 h5 g5 hp5 hX hW1 hW2 hs1 HP HG
  generalize hs : sum p = sp at *
  have HSP := Lib.hid hs
  clear hs
  by_cases hk : kd = 3
  · subst hk
    obtain ⟨W6, hW6⟩ : ∃ W6, W5.setCell ⟨W3.heap.size, 2, none⟩ (.int .u16 0) = W6 := ⟨_, rfl⟩
    have h6 : W6.heap[W3.heap.size]? = some (.cells (Ptr.mk 3 (w16 a) 0 bi sp).cells 48 (0, 0)) := by rw [← hW6, heap_setCell_same _ _ 2 _ _ _ H5.out, HXC.out]; rfl
    have g6 : Agrees (fun b => b ≠ W3.heap.size) W5 W6 := by rw [← hW6]; exact (Agrees.refl _ _).setCell (.inl fun h => h rfl) _
    have HP6 := Lib.hid ((g6.block _ (Array.getElem?_eq_some_iff.1 HP5.out).1 (by omega)).trans HP5.out)
    have HA6 := Lib.hid (HA5.out.young g6 fun b hb => by omega)
    have H6 := Lib.hid h6
    clear h6 g6
    go_wp2_with (first
      | (refine wpList_val rfl (ex_alloc rfl (.agg Ptr.zero.cells) zero_ptr) ?_; rw [show (Value.agg Ptr.zero.cells).cells = Ptr.zero.cells from rfl, hW4])
      | (refine wpList_unit rfl (ex_storeAll (ty := 48) rfl isAgg_ptr.2 W3.heap.size rfl X.cells Ptr.zero.cells (by rw [HXC.out]; rfl) rfl HZ4.out rfl X.one) ?_; rw [hW5])
      | (refine wpList_val rfl (ex_load (ty := 48) rfl isAgg_ptr W3.heap.size 0 rfl (Ptr.mk 3 (w16 a) 0 bi sp).cells rfl (Ptr.load _ H6.out)) ?_)
      | (refine wpList_unit rfl (ex_storeAll (ty := 48) rfl isAgg_ptr.2 (w.heap.size + 1) rfl (Ptr.mk 3 (w16 a) 0 bi sp).cells Ptr.zero.cells rfl rfl HP6.out rfl (Ptr.one _)) ?_))
    refine bodyPost_ret (results_cell_row rfl _ _ (w.heap.size + 1) _ _ _ _ rfl (setRow_heap _ _ _ _ _ _ HP6.out) Try.underlying48 rfl (by kernel_rfl)) rfl ⟨?_, HA6.out.setRow (.inr (by omega)) _⟩
    simp [ptrOf, Ptr.cells, HSP.out]
  · have hk2 : (kd == 3) = false := by simpa using hk
    go_wp2_with (first
      | (refine wpList_val rfl (ex_alloc rfl (.agg Ptr.zero.cells) zero_ptr) ?_; rw [show (Value.agg Ptr.zero.cells).cells = Ptr.zero.cells from rfl, hW4])
      | (refine wpList_unit rfl (ex_storeAll (ty := 48) rfl isAgg_ptr.2 W3.heap.size rfl X.cells Ptr.zero.cells (by rw [HXC.out]; rfl) rfl HZ4.out rfl X.one) ?_; rw [hW5])
      | (refine wpList_val rfl (ex_load (ty := 48) rfl isAgg_ptr W3.heap.size 0 rfl X.cells rfl (Ptr.load _ H5.out)) ?_)
      | (refine wpList_unit rfl (ex_storeAll (ty := 48) rfl isAgg_ptr.2 (w.heap.size + 1) rfl X.cells Ptr.zero.cells rfl rfl HP5.out rfl (Ptr.one _)) ?_))
    refine bodyPost_ret (results_cell_row rfl _ _ (w.heap.size + 1) _ _ _ _ rfl (setRow_heap _ _ _ _ _ _ HP5.out) Try.underlying48 rfl (by kernel_rfl)) rfl ⟨?_, HA5.out.setRow (.inr (by omega)) _⟩
    rw [HX.out]
    simp [ptrOf, Ptr.cells, HSP.out, hk]
end Suture
