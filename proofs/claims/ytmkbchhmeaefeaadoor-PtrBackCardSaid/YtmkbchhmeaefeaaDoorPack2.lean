/-
  NUMBERS PUT: slices.Clone, slices.AppendSeq, pack.Put.
  Conditions: none beyond each theorem's own.
-/
import Derived.Test.YtmkbchhmeaefeaaDoorPack1
namespace Suture
open Go Go.RowKit Go.Proofs
attribute [local go_sem] Oper.semAt_some

theorem oneBytes : IsOne Tryd.prog 28 := ⟨⟨_, Tryd.underlying28, rfl⟩, by kernel_rfl⟩
theorem own_one {W : World} {base : Nat} {e : TypeId} {size n : Nat} {v : Value} {xs : List Value} (h : W.ownsRow base e size v n xs) : v.oneCell' = true := by
  rcases h.2 with hn | ⟨_, _, _, rfl, _⟩
  · rw [hn.1]; rfl
  · rfl

theorem eqlNil {P : Program} {t e : TypeId} (ht : P.underlying t = some (.slice e)) (a : Option Addr) (n cap : Nat) (w : World) : (binOp .eql t (.slice a n cap) (.slice none 0 0)).run P w = .ok (.bool a.isNone) w := by
  have h : (Op.equalIn 10000 t (.slice a n cap) (.slice none 0 0)).run P w = .ok a.isNone w := by
    rw [show 10000 = 9999 + 1 from rfl]
    unfold Op.equalIn
    cases a <;> simp [Sem.run_bind, run_underlying ht]
  simp only [binOp]
  simp only [Op.equal, Op.maxDepth, Sem.run_bind, h, Result.andThen_ok]
  rfl
theorem eqlNilB (a : Option Addr) (n cap : Nat) (w : World) : (binOp .eql 28 (.slice a n cap) (.slice none 0 0)).run Tryd.prog w = .ok (.bool a.isNone) w := eqlNil Tryd.underlying28 a n cap w

attribute [local go_sem] eqlNilB in
set_option maxHeartbeats 1000000 in
theorem clone_calls (a : Option Addr) (n cap : Nat) (bs : List (BitVec 8)) (w : World) (hn : n ≤ 1000000) (hv : BytesAt All w (.slice a n cap) bs) :
    Calls Tryd.prog 23 #[.slice a n cap] w fun e w' => ∃ v, e = .returned v ∧ w'.ownsRow w.heap.size 5 1 v n (bs.map B) ∧ Agrees All w w' := by
  have hl := hv.len
  have hat := hv.at.2.2
  have HAT := Lib.hid hat
  have HL := Lib.hid hl
  clear hv hat hl
  obtain ⟨i0, hi, hz0, hz1, hz2⟩ := info_parts infoU8
  cases a with
  | none =>
    have h0 : n = 0 := by
      rcases Nat.eq_zero_or_pos n with h | h
      · exact h
      · obtain ⟨_, _, h1, _⟩ := HAT.out 0 h; cases h1
    subst h0
    have hb : bs = [] := List.length_eq_zero_iff.1 HL.out
    go_enter Tryd.func23, Tryd.ntmps23
    go_wp2_with fail
    go_ret
    exact ⟨_, rfl, by rw [hb]; exact World.ownsRow_nil _ _ _ _, Agrees.refl _ _⟩
  | some ad =>
    go_enter Tryd.func23, Tryd.ntmps23
    go_wp2_with (at_builtin; refine wpList_append_own _ rfl _ _ 28 rfl w.heap.size 5 i0 (.int .u8 0) 1 1 Tryd.underlying28 hi hz0 hz1 hz2 rfl (by decide) (.slice (some ⟨w.heap.size, 0, none⟩) 0 0) 0 [] rfl ?own ad n cap (bs.map B) rfl (by simp [HL.out]) ?news ?one ?h63 ?hby ?hba ?_)
    case own => exact ⟨rfl, .inr ⟨w.heap.size, 0, #[], rfl, Nat.le_refl _, World.alloc_heap_new _ _, Nat.le_refl _, Nat.zero_le _, rfl, rfl⟩⟩
    case news =>
      intro j u hu
      have hj : j < n := by have := (List.getElem?_eq_some_iff.1 hu).1; simp [HL.out] at this; exact this
      obtain ⟨b, off, hb, _, hlt, hc⟩ := HAT.out j hj
      cases hb
      rw [addr_add, ((Agrees.refl All w).alloc _).cell (p := ⟨b, off + j, none⟩) hlt trivial, hc]
      rw [List.getElem?_map] at hu
      rw [← hu, List.getD_eq_getElem?_getD, List.getElem?_eq_getElem (by rw [HL.out]; exact hj)]; rfl
    case one => intro u hu; obtain ⟨x, _, rfl⟩ := List.mem_map.1 hu; rfl
    case h63 => simp only [maxLen]; omega
    case hby => omega
    case hba => simp
    intro v' w1 hown hgrow _
    have HO := Lib.hid hown
    have hg : Agrees All w w1 := ((Agrees.refl All w).alloc _).grown hgrow (fun b hb => by simp [Value.ownBlock] at hb; omega)
    have HG := Lib.hid hg
    clear hown hgrow hg
    go_wp2_with fail
    go_ret
    refine ⟨v', rfl, ?_, HG.out⟩
    simpa using HO.out

/-- the world of a list that grows in a box, the row older than the box -/
structure GrowW (w : World) (n0 box : Nat) (bt et : TypeId) (xs : List Value) (W : World) (v : Value) : Prop where
  ag : Agrees (fun k => k < n0) w W
  lo : n0 ≤ box
  row : W.heap[box]? = some (.cells #[v] bt (0, 0))
  own : W.ownsRow n0 et 1 v xs.length xs
  ne : v.ownBlock ≠ some box
theorem GrowW.sta {w : World} {n0 box : Nat} {bt et : TypeId} {xs : List Value} {W W' : World} {v : Value} (h : GrowW w n0 box bt et xs W v) (g : Agrees (fun k => (k = box ∨ v.ownBlock = some k) ∨ k < n0) W W') : GrowW w n0 box bt et xs W' v := by
  have h1 := (Array.getElem?_eq_some_iff.1 h.row).1
  refine ⟨h.ag.trans' g (fun _ _ hk => .inr hk), h.lo, (g.block _ h1 (.inl (.inl rfl))).trans h.row, ⟨h.own.1, ?_⟩, h.ne⟩
  rcases h.own.2 with hn | ⟨gb, cap, cur, rfl, hb, hg, hr⟩
  · exact .inl hn
  · exact .inr ⟨gb, cap, cur, rfl, hb, (g.block _ (Array.getElem?_eq_some_iff.1 hg).1 (.inl (.inr rfl))).trans hg, hr⟩
/-- what an append onto it leaves, ahead of the store -/
theorem GrowW.push {w : World} {n0 box : Nat} {bt et : TypeId} {xs : List Value} {W W1 : World} {v v' y : Value} (h : GrowW w n0 box bt et xs W v) (o : Obj) (hown : W1.ownsRow n0 et 1 v' (xs.length + 1) (xs ++ [y])) (hg : (W.alloc o).grownBy W1 v.ownBlock)
    (hat : v'.ownBlock = v.ownBlock ∨ v'.ownBlock = some (W.alloc o).heap.size) :
    W1.heap[box]? = some (.cells #[v] bt (0, 0)) ∧ Agrees (fun b => ¬ (b = box ∨ v.ownBlock = some b)) W W1 ∧ GrowW w n0 box bt et (xs ++ [y]) (W1.setCell ⟨box, 0, none⟩ v') v' ∧
      (∀ b, (b = box ∨ v'.ownBlock = some b) → b < (W1.setCell ⟨box, 0, none⟩ v').heap.size ∧ ((b = box ∨ v.ownBlock = some b) ∨ W.heap.size ≤ b)) := by
  have h1 := (Array.getElem?_eq_some_iff.1 h.row).1
  have hlo := h.lo
  have hob : ∀ b, v.ownBlock = some b → n0 ≤ b := fun b hb => (h.own.lt b hb).1
  have hrow1 : W1.heap[box]? = some (.cells #[v] bt (0, 0)) := by
    rw [hg.block _ (by simp; omega) (fun e => h.ne e.symm), heap_alloc_old _ _ h1]; exact h.row
  have hag1 : Agrees (fun b => ¬ (b = box ∨ v.ownBlock = some b)) W W1 := by
    refine ⟨hg.os, hg.tape, hg.output, Nat.le_trans (by simp) hg.size, fun b hb hn => ?_⟩
    rw [hg.block b (by simp; omega) (fun e => hn (.inr e.symm))]
    exact heap_alloc_old _ _ hb
  have hne' : v'.ownBlock ≠ some box := by
    rcases hat with e | e
    · rw [e]; exact h.ne
    · rw [e]; intro e2; simp at e2; omega
  refine ⟨hrow1, hag1, ⟨(h.ag.trans' hag1 (fun k _ hk => ?_)).setCell (.inl (by show ¬ box < n0; omega)) _, hlo, heap_setCell_same _ _ 0 _ _ _ hrow1, ?_, hne'⟩, fun b hb => ?_⟩
  · rintro (e | e)
    · omega
    · have := hob k e; omega
  · rw [show (xs ++ [y]).length = xs.length + 1 by simp]
    refine ⟨hown.1, ?_⟩
    rcases hown.2 with hn | ⟨gb, cap, cur, rfl, hb, hgg, hr⟩
    · exact .inl hn
    · exact .inr ⟨gb, cap, cur, rfl, hb, (heap_setCell_other _ _ _ _ (fun e => hne' (by simp [Value.ownBlock, e]))).trans hgg, hr⟩
  · have hs : (W1.setCell ⟨box, 0, none⟩ v').heap.size = W1.heap.size := by simp [World.setCell]
    rw [hs]
    have hgs := hg.size
    simp at hgs
    rcases hb with rfl | hb
    · exact ⟨by omega, .inl (.inl rfl)⟩
    · refine ⟨(hown.lt b hb).2, ?_⟩
      rcases hat with e | e
      · rw [e] at hb; exact .inl (.inr hb)
      · rw [e] at hb; simp at hb; exact .inr (by omega)

set_option maxHeartbeats 2000000 in
set_option maxRecDepth 100000 in
theorem appendSeq_calls (v0 : Value) (base : Nat) (bs : List (BitVec 8)) (nb wb : Nat) (n : BitVec 64) (m : Nat) (width : Int) (hm : (m : Int) = max (min width 8) 1) (w : World) (hk0 : bs.length ≤ 1000000) (hbase : base ≤ nb)
    (hown : w.ownsRow base 5 1 v0 bs.length (bs.map B)) (hn : w.heap[nb]? = some (.cells #[U n] 25 (0, 0))) (hw : w.heap[wb]? = some (.cells #[.int .i64 width] 3 (0, 0)))
    (hd : v0.ownBlock ≠ some nb ∧ v0.ownBlock ≠ some wb) :
    Calls Tryd.prog 22 #[v0, .func (.func 30) #[] #[.pointer (some ⟨wb, 0, none⟩), .pointer (some ⟨nb, 0, none⟩)]] w fun e w' =>
      ∃ v, e = .returned v ∧ w'.ownsRow base 5 1 v (bs.length + m) ((bs ++ (List.range m).map (byteN n)).map B) ∧ Agrees (fun b => b < base) w w' := by
  refine (callsIn_wide (n := 0)).1 (callsIn_of_wp_marks Tryd.func22 rfl trivial (wpIn_wide.2 ?_) rfl)
  simp only [Tryd.ntmps22, List.size_toArray, List.length_cons, List.length_nil, Nat.reduceAdd, Nat.reduceSub, Array.replicate_succ, Array.replicate_zero, List.push_toArray, List.append_toArray, List.nil_append, List.cons_append]
  have hv1 := own_one hown
  have hcs : v0.cells = #[v0] := by cases v0 <;> simp_all [Value.cells, Value.oneCell']
  have hnl := (Array.getElem?_eq_some_iff.1 hn).1
  have hwl := (Array.getElem?_eq_some_iff.1 hw).1
  obtain ⟨W2, hW2⟩ : ∃ W2, w.alloc (.cells #[v0] 28) = W2 := ⟨_, rfl⟩
  have hs2 : W2.heap.size = w.heap.size + 1 := by rw [← hW2]; simp
  have hne : v0.ownBlock ≠ some w.heap.size := fun e => by have := (hown.lt _ e).2; omega
  have hL : GrowW w base w.heap.size 28 5 (bs.map B) W2 v0 := by
    rw [← hW2]
    refine ⟨((Agrees.refl All w).alloc _).weak, by omega, World.alloc_heap_new _ _, ?_, hne⟩
    rw [List.length_map]
    exact hown.alloc _
  have hn2 : W2.heap[nb]? = some (.cells #[U n] 25 (0, 0)) := by rw [← hW2, heap_alloc_old _ _ hnl]; exact hn
  have hw2 : W2.heap[wb]? = some (.cells #[.int .i64 width] 3 (0, 0)) := by rw [← hW2, heap_alloc_old _ _ hwl]; exact hw
  have hvb : ∀ b, v0.ownBlock = some b → b < w.heap.size := fun b hb => (hown.lt b hb).2
  have HL := Lib.hid hL
  have HVB := Lib.hid hvb
  clear hL hn hw hown hvb hne
  have HW2 := Lib.hid hW2
  clear hW2
  go_wp2_with fail
  rw [HW2.out]
  obtain ⟨i0, hi0, hz0, hz1, hz2⟩ := info_parts infoU8
  have hm8 : m ≤ 8 := by omega
  refine wp_rangeFunc_iter rfl (Go.Proofs.enters_of Tryd.func30 (by kernel_rfl) rfl) (packBytes1_iter (fun b => b = nb ∨ b = wb) base W2 nb wb n m width hm hn2 hw2 (.inl rfl) (.inr rfl) hbase)
    (Agrees.refl _ _) (fun b hb => by rcases hb with rfl | rfl <;> omega) (by omega) (fun _ => rfl)
    (fun b => b = w.heap.size ∨ v0.ownBlock = some b) (fun b hb => by
      rcases hb with rfl | hb
      · exact ⟨by rintro (e | e) <;> omega, by omega⟩
      · refine ⟨?_, by have := HVB.out b hb; omega⟩
        rintro (rfl | rfl)
        · exact hd.1 hb
        · exact hd.2 hb)
    (fun k C W => ∃ v, C = (fun b => b = w.heap.size ∨ v.ownBlock = some b) ∧ GrowW w base w.heap.size 28 5 ((bs ++ (List.range k).map (byteN n)).map B) W v)
    (fun _ _ _ _ => False) ?stabI ?stabX ⟨v0, rfl, by simpa using HL.out⟩
    (fun k => { tmps := #[v0, .func (.func 30) #[] #[.pointer (some ⟨wb, 0, none⟩), .pointer (some ⟨nb, 0, none⟩)], .pointer (some ⟨w.heap.size, 0, none⟩), undef, .slice none 0 0, B (byteN n k), .func (.func 30) #[] #[.pointer (some ⟨wb, 0, none⟩), .pointer (some ⟨nb, 0, none⟩)], B (byteN n k), undef, undef, undef, undef, undef], defers := [] })
    ?assign ?body ?done ?stop
  case stabI =>
    rintro k C W W' ⟨v, rfl, h⟩ hag
    exact ⟨v, rfl, h.sta hag⟩
  case stabX => exact fun _ _ _ _ _ h _ => h
  case assign =>
    intro l k W K hK
    generalize byteN n k = av at *
    gi_wp2
    exact hK
  case body =>
    rintro l k C W hk ⟨v, rfl, hI⟩ hCW hsz
    have hsuc : (bs ++ (List.range (k + 1)).map (byteN n)).map B = (bs ++ (List.range k).map (byteN n)).map B ++ [B (byteN n k)] := by
      rw [List.range_succ]; simp
    have hxl : ((bs ++ (List.range k).map (byteN n)).map B).length ≤ 1000008 := by simp; omega
    generalize byteN n k = av at *
    generalize hxs : (bs ++ (List.range k).map (byteN n)).map B = xs at *
    have d1 : W.cell? ⟨w.heap.size, 0, none⟩ = some v := cell_of_row W _ 0 _ _ _ hI.row
    have hWl : base ≤ W.heap.size := by omega
    obtain ⟨v', W1, hrun, hown, hgrow, _, hat⟩ := run_append_own_at (P := Tryd.prog) (W.alloc (.cells #[B av] 5)) base 28 28 5 i0 (.int .u8 0) 1 1 Tryd.underlying28 hi0 hz0 hz1 hz2 rfl (by decide)
      v xs.length xs (hI.own.alloc _) ⟨W.heap.size, 0, none⟩ 1 1 [B av] rfl (by intro j' u hu; rw [addr_add, cell_of_row _ _ _ _ _ _ (World.alloc_heap_new W _)]; rw [Nat.zero_add, List.getElem?_toArray]; exact hu) (by intro u hu; obtain rfl := List.mem_singleton.1 hu; rfl)
      (by simp only [maxLen]; omega) (by omega) (by simp; omega)
    obtain ⟨hrow1, hag1, hpush, hC'⟩ := hI.push _ hown hgrow hat
    have e1 : W1.cell? ⟨w.heap.size, 0, none⟩ = some v := cell_of_row W1 _ 0 _ _ _ hrow1
    have e1f : W1.frozen? ⟨w.heap.size, 0, none⟩ = false := frozen_of_row W1 _ 0 _ _ hrow1
    have hst : (store ⟨w.heap.size, 0, none⟩ v').run Tryd.prog W1 = .ok () (W1.setCell ⟨w.heap.size, 0, none⟩ v') := by
      rw [run_store _ _ _ _ _ (own_one hown), e1]
      simp [e1f]
    have HR := Lib.hid hrun
    have HP := Lib.hid hpush
    have HC := Lib.hid hC'
    have HG := Lib.hid hag1
    clear hI hown hgrow hat hag1 hrun hrow1 hpush hC' hxs hi0 hz0 hz1 hz2 hn2 hw2 hd e1 e1f
    gi_wp2_with (first
      | (refine wpListIn_val (fun _ => trivial) rfl rfl (ex_load1 (ty := 28) rfl oneBytes rfl d1) ?_)
      | (refine wpListIn_val (fun _ => trivial) rfl rfl (ex_append rfl rfl rfl HR.out) ?_))
    refine ⟨HG.out.setCell (.inl (fun h => h (.inl rfl))) _, _, ⟨v', rfl, ?_⟩, HC.out⟩
    rw [hsuc]; exact HP.out
  case done =>
    rintro D C W hD ⟨v, rfl, h⟩ hK hCD
    have d1 : W.cell? ⟨w.heap.size, 0, none⟩ = some v := cell_of_row W _ 0 _ _ _ h.row
    have HH := Lib.hid h
    have HK := Lib.hid hK
    have HD := Lib.hid (show w.heap.size + 1 ≤ D by omega)
    have HCD := Lib.hid hCD
    clear h hK hCD hi0 hz0 hz1 hz2 hn2 hw2 hd
    go_wp2_with (refine wpList_val rfl (ex_load1 (ty := 28) rfl oneBytes rfl d1) ?_)
    refine ⟨by simp, .inl ⟨_, _, rfl, run_takeDeferred HK.out, ?_⟩⟩
    refine ⟨_, results_tmp rfl _ _ _, ?_⟩
    refine ⟨v, rfl, ?_, HH.out.ag.putObj (.inl (by have := HD.out; omega)) _⟩
    have := ownsRow_put HH.out.own (fun e => HCD.out (.inr e)) (.deferred none)
    rw [show ((bs ++ (List.range m).map (byteN n)).map B).length = bs.length + m by simp] at this
    simpa using this
  case stop =>
    rintro D k c C W _ _ h
    exact h.elim

set_option maxHeartbeats 1000000 in
theorem packPut_calls (a : Option Addr) (l cap : Nat) (bs : List (BitVec 8)) (n : BitVec 64) (m : Nat) (width : Int) (hm : (m : Int) = max (min width 8) 1) (w : World) (hl : l ≤ 1000000) (hv : BytesAt All w (.slice a l cap) bs) :
    Calls Tryd.prog 17 #[.slice a l cap, U n, .int .i64 width] w fun e w' =>
      ∃ v, e = .returned v ∧ w'.ownsRow w.heap.size 5 1 v (l + m) ((bs ++ (List.range m).map (byteN n)).map B) ∧ Agrees All w w' := by
  have hbl := hv.len
  have HV := Lib.hid hv
  clear hv
  go_enter Tryd.func17, Tryd.ntmps17
  go_wp2_with fail
  refine (clone_calls a l cap bs w hl HV.out).mono ?_
  rintro e w1 ⟨v0, rfl, hown, hag1⟩
  have HO := Lib.hid hown
  have HA := Lib.hid hag1
  clear hown hag1
  go_wp2_with fail
  refine (packBytes_calls n width w1).mono ?_
  rintro e w2 ⟨rfl, hw2⟩
  have hlt : ∀ b, v0.ownBlock = some b → b < w1.heap.size := fun b hb => (HO.out.lt b hb).2
  have hs1 := HA.out.size
  have hn2 : w2.heap[w1.heap.size]? = some (.cells #[U n] 25 (0, 0)) := by rw [← hw2, heap_alloc_old _ _ (by simp)]; exact World.alloc_heap_new w1 _
  have hwd : w2.heap[w1.heap.size + 1]? = some (.cells #[.int .i64 width] 3 (0, 0)) := by
    rw [← hw2]; have := World.alloc_heap_new (w1.alloc (.cells #[U n] 25)) (.cells #[.int .i64 width] 3); rwa [World.size_alloc] at this
  have hown2 : w2.ownsRow w.heap.size 5 1 v0 bs.length (bs.map B) := by rw [← hw2, hbl]; exact (HO.out.alloc _).alloc _
  have hA2 : Agrees All w w2 := by rw [← hw2]; exact (HA.out.alloc _).alloc _
  have hcall := appendSeq_calls v0 w.heap.size bs w1.heap.size (w1.heap.size + 1) n m width hm w2 (by omega) hs1 hown2 hn2 hwd ⟨fun e => by have := hlt _ e; omega, fun e => by have := hlt _ e; omega⟩
  have HCALL := Lib.hid hcall
  have HA2 := Lib.hid hA2
  clear hw2 hn2 hwd hown2 hA2 hcall hlt hs1
  go_wp2_with fail
  refine HCALL.out.mono ?_
  rintro e w3 ⟨v, rfl, hown3, hag3⟩
  rw [hbl] at hown3
  have HO3 := Lib.hid hown3
  have HA3 := Lib.hid (HA2.out.trans' hag3 (fun b hb _ => hb))
  clear hown3 hag3
  go_wp2_with fail
  go_ret
  exact ⟨v, rfl, HO3.out, HA3.out⟩
end Suture
