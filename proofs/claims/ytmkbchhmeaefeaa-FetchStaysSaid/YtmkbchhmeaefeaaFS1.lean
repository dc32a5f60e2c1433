/-
  READING AND SCANNING, side by side, in plain Lean.
  Conditions: none.
-/
import Derived.Test.YtmkbchhmeaefeaaFB11
namespace Suture
open Go Go.RowKit Go.Proofs

theorem mend_low (pg : List (BitVec 8)) : ∀ (bs : List (Int × Int)) (P : Pair) (m : Int), P.low → (mendAll pg bs P m).1.low
  | [], _, _, h => h
  | b :: l, P, m, h => by
    rw [mendAll]
    split
    · exact mend_low pg l _ _ (h.put _ _ _)
    · exact h.put _ _ _
theorem mend_off (pg : List (BitVec 8)) {j : Nat} (hj : j < 2) : ∀ (bs : List (Int × Int)) (P : Pair) (m : Int), (∀ c ∈ bs, onPair c) → ((mendAll pg bs P m).1.disk j).off = (P.disk j).off
  | [], _, _, _ => rfl
  | b :: l, P, m, h => by
    have hb := onPair_lt (h b (by simp))
    rw [mendAll]
    split
    · rw [mend_off pg hj l _ _ (fun c hc => h c (by simp [hc])), pput_off hb hj]
    · exact pput_off hb hj
theorem mend_append (pg : List (BitVec 8)) : ∀ (l1 l2 : List (Int × Int)) (P : Pair) (m : Int), mendAll pg (l1 ++ l2) P m = if (mendAll pg l1 P m).2.2 = 0 then mendAll pg l2 (mendAll pg l1 P m).1 (mendAll pg l1 P m).2.1 else mendAll pg l1 P m
  | [], l2, P, m => by simp [mendAll]
  | b :: l, l2, P, m => by
    rw [List.cons_append, mendAll, mendAll]
    by_cases he : P.putE b.1.toNat b.2 = 0
    · rw [if_pos he, if_pos he]; exact mend_append pg l l2 _ _
    · rw [if_neg he, if_neg he]
      dsimp only
      rw [if_neg he]
theorem look_split (rt : Int × Int → Bool) : ∀ l : List (Int × Int), l.any rt = true → ∃ l1 c l2, l = l1 ++ c :: l2 ∧ l1.any rt = false ∧ rt c = true ∧ lookN rt false l = l1.length + 1
  | [], h => by simp at h
  | c :: l, h => by
    cases hc : rt c with
    | true => exact ⟨[], c, l, rfl, rfl, hc, by unfold lookN; simp [hc]⟩
    | false =>
      obtain ⟨l1, d, l2, e1, e2, e3, e4⟩ := look_split rt l (by simpa [hc] using h)
      exact ⟨c :: l1, d, l2, by rw [e1]; rfl, by simp only [List.any_cons, hc, Bool.false_or]; exact e2, e3, by unfold lookN; simp [hc, e4]⟩

theorem badIn_none {P : Pair} {x : Ptr} {l : List (Int × Int)} (h : l.any (P.isRight x) = false) : P.badIn x l = l := by
  unfold Pair.badIn
  rw [List.filter_eq_self]
  intro c hc
  have := List.any_eq_false.1 h c hc
  simpa using this

theorem badLen (x : Ptr) (P : Pair) : (P.bad x).length ≤ 4 := by
  unfold Pair.bad
  split
  · unfold Pair.bads Pair.found
    have h1 := List.length_filter_le (fun c => !P.isRight x c) (x.copies.filter P.lives)
    have h2 := List.length_filter_le P.lives x.copies
    have h3 : x.copies.length ≤ 4 := by unfold Ptr.copies; split <;> simp
    omega
  · simp

/-- what a reading and a scan answer, side by side -/
structure MendsF (P : Pair) (x : Ptr) (r s : List (BitVec 8) × Pair × Tal × Int) : Prop where
  f1 : r.2.2.2 = 0 → x.fits r.1 = true ∧ r.2.2.1.r = r.2.2.1.b + 1 ∧ r.2.2.1.m = r.2.2.1.b
  f2 : s.2.2.2 = 0 → x.fits s.1 = true ∧ s.2.1.bad x = [] ∧ s.2.2.1.b = (P.bad x).length ∧ s.2.2.1.m = (P.bad x).length
  f3 : (r.2.2.2 ≠ 0 → r.1 = noPage) ∧ (s.2.2.2 ≠ 0 → s.1 = noPage)
  f4 : r.2.2.1.r ≤ s.2.2.1.r ∧ r.2.2.1.b ≤ s.2.2.1.b
  f5 : (P.bad x).length = 0 → r.2.1 = P ∧ s.2.1 = P
  f6 : r.2.2.2 = 50 → s.2.2.2 = 50 ∧ s.2.2.1.b = s.2.2.1.r ∧ r.2.1 = P
  f7 : s.2.2.2 = 0 → r.2.2.2 = 0
  low : P.low → s.2.1.low
  bnd : 0 ≤ r.2.2.1.b ∧ r.2.2.1.b ≤ 4

theorem scan_clean {P : Pair} {x : Ptr} (h : (P.look x true).2.2.2 = 0) : (P.look x true).2.1.bad x = [] := by
  have hS := scan_ok h
  have hall := hS.all
  have hb := bad_eq hS.asked
  have hoff : ∀ j, j < 2 → ((P.look x true).2.1.disk j).off = (P.disk j).off := fun j hj => by
    rw [look_true hS.asked, hS.some]
    unfold lookEnd
    have := mend_off (P.pageIn x (P.found x)) hj (P.bad x) P 0 (fun c hc => by rw [hb] at hc; exact found_on (List.mem_filter.1 hc).1)
    simp only [if_true]
    split <;> exact this
  generalize (P.look x true).2.1 = O at *
  unfold Pair.bad
  split
  · unfold Pair.bads
    rw [List.filter_eq_nil_iff]
    intro c hc
    have hc2 : c ∈ P.found x := by
      have h1 := List.mem_filter.1 hc
      refine List.mem_filter.2 ⟨h1.1, ?_⟩
      have h2 := h1.2
      unfold Pair.lives at h2 ⊢
      rw [hoff _ (onPair_lt (found_on hc))] at h2
      exact h2
    obtain ⟨a1, a2⟩ := hall c hc2
    unfold Pair.isRight Pair.has
    simp [a1, a2]
  · rfl

theorem mends (P : Pair) (x : Ptr) : MendsF P x (P.look x false) (P.look x true) := by
  have hcl := @scan_clean P x
  have hsc := @scan_ok P x
  by_cases ha : P.asked x = 0
  · have hb := bad_eq ha
    cases hs : (P.found x).any (P.isRight x) with
    | false =>
      have hseen : P.seen x false = P.found x := by
        unfold Pair.seen
        rw [lookN_done _ _ _ (fun _ => hs), List.take_length]
      have hf : P.look x false = P.look x true := by rw [look_of_seen ha hseen, look_of_seen ha (seen_all P x)]
      have ht : P.look x true = (noPage, P, ⟨(P.found x).length, (P.bad x).length, 0⟩, 50) := by
        rw [look_true ha, hs]
        unfold lookEnd
        rw [if_neg Bool.false_ne_true, pageIn_none hs]
      have hbl : P.bad x = P.found x := by rw [hb, badIn_none hs]
      rw [hf, ht]
      exact ⟨(fun h => by cases h), (fun h => by cases h), ⟨fun _ => rfl, fun _ => rfl⟩, ⟨Int.le_refl _, Int.le_refl _⟩, fun _ => ⟨rfl, rfl⟩, fun _ => ⟨rfl, (by rw [hbl]), rfl⟩, (fun h => by cases h), (fun h => h), ⟨Int.natCast_nonneg _, by have := badLen x P; show ((P.bad x).length : Int) ≤ 4; omega⟩⟩
    | true =>
      obtain ⟨l1, c, l2, e1, e2, e3, e4⟩ := look_split (P.isRight x) (P.found x) hs
      have hseen : P.seen x false = l1 ++ [c] := by
        unfold Pair.seen
        rw [e4, e1, List.take_append, List.take_of_length_le (by omega), Nat.add_sub_cancel_left]
        rfl
      have hany : (l1 ++ [c]).any (P.isRight x) = true := by simp [e3]
      have hbin : P.badIn x (l1 ++ [c]) = l1 := by rw [badIn_snoc, badIn_none e2, e3]; simp
      have hpin : P.pageIn x (l1 ++ [c]) = P.has c := pageIn_new e2 e3
      have hpall : P.pageIn x (P.found x) = P.has c := by
        rw [e1]
        unfold Pair.pageIn
        rw [List.find?_append, List.find?_eq_none.2 (by simpa using e2), List.find?_cons, e3]
        rfl
      have hball : P.bad x = l1 ++ P.badIn x l2 := by
        rw [hb, e1]
        have : P.badIn x (l1 ++ c :: l2) = P.badIn x l1 ++ P.badIn x l2 := by
          unfold Pair.badIn
          rw [List.filter_append, List.filter_cons, e3]
          rfl
        rw [this, badIn_none e2]
      have hr : P.look x false = lookEnd (P.has c) l1 P (l1.length + 1 : Nat) l1.length true := by
        rw [look_of_seen ha hseen, hany, hbin, hpin]
        simp
      have ht : P.look x true = lookEnd (P.has c) (l1 ++ P.badIn x l2) P (P.found x).length (P.bad x).length true := by
        rw [look_true ha, hs, hpall, hball]
      have hfit : x.fits (P.has c) = true := (right_read e3).2
      have hle : (l1.length + 1 : Nat) ≤ (P.found x).length := by rw [e1, List.length_append, List.length_cons]; omega
      have hlb : l1.length ≤ (P.bad x).length := by rw [hball, List.length_append]; omega
      have hm1 := fun h => (mend_read (P.has c) l1 P 0 (fun d hd => found_on (by rw [e1]; simp [hd])) h).2.2
      have hma := mend_append (P.has c) l1 (P.badIn x l2) P 0
      have hc1 := mend_codes (P.has c) l1 P 0
      have hlow := mend_low (P.has c) (l1 ++ P.badIn x l2) P 0
      have hz : (P.bad x).length = 0 → l1 = [] ∧ P.badIn x l2 = [] := fun h => by
        rw [hball] at h
        have := List.eq_nil_of_length_eq_zero h
        exact List.append_eq_nil_iff.1 this
      have hr1 : (P.look x false).2.1 = (mendAll (P.has c) l1 P 0).1 := by rw [hr]; unfold lookEnd; simp only [if_true]; split <;> rfl
      have hr2 : (P.look x false).2.2.1 = ⟨(l1.length + 1 : Nat), l1.length, (mendAll (P.has c) l1 P 0).2.1⟩ := by rw [hr]; unfold lookEnd; simp only [if_true]; split <;> rfl
      have hr3 : (P.look x false).2.2.2 = (mendAll (P.has c) l1 P 0).2.2 := by
        rw [hr]; unfold lookEnd; simp only [if_true]
        split
        · rename_i h; exact h.symm
        · rfl
      have hr4 : (P.look x false).2.2.2 = 0 → (P.look x false).1 = P.has c := fun h => by
        rw [hr3] at h
        rw [hr]; unfold lookEnd; simp only [if_true]; rw [if_pos h]
      have hr5 : (P.look x false).2.2.2 ≠ 0 → (P.look x false).1 = noPage := fun h => by
        rw [hr3] at h
        rw [hr]; unfold lookEnd; simp only [if_true]; rw [if_neg h]
      have ht1 : (P.look x true).2.1 = (mendAll (P.has c) (l1 ++ P.badIn x l2) P 0).1 := by rw [ht]; unfold lookEnd; simp only [if_true]; split <;> rfl
      have ht2 : (P.look x true).2.2.1 = ⟨(P.found x).length, (P.bad x).length, (mendAll (P.has c) (l1 ++ P.badIn x l2) P 0).2.1⟩ := by rw [ht]; unfold lookEnd; simp only [if_true]; split <;> rfl
      have ht3 : (P.look x true).2.2.2 = (mendAll (P.has c) (l1 ++ P.badIn x l2) P 0).2.2 := by
        rw [ht]; unfold lookEnd; simp only [if_true]
        split
        · rename_i h; exact h.symm
        · rfl
      have ht5 : (P.look x true).2.2.2 ≠ 0 → (P.look x true).1 = noPage := fun h => by
        rw [ht3] at h
        rw [ht]; unfold lookEnd; simp only [if_true]; rw [if_neg h]
      refine ⟨fun h => ⟨by rw [hr4 h]; exact hfit, by rw [hr2]; simp, by rw [hr2]; rw [hr3] at h; simp [hm1 h]⟩, fun h => ⟨(hsc h).page, hcl h, (hsc h).nbad, (hsc h).mended⟩, ⟨hr5, ht5⟩, ?_, fun h => ?_, fun h => ?_, fun h => ?_, (fun h => by rw [ht1]; exact hlow h), ⟨by rw [hr2]; exact Int.natCast_nonneg _, by have := badLen x P; rw [hr2]; show (l1.length : Int) ≤ 4; omega⟩⟩
      · rw [hr2, ht2]
        dsimp only
        omega
      · obtain ⟨z1, z2⟩ := hz h
        rw [hr1, ht1, z1, z2]
        exact ⟨rfl, rfl⟩
      · exfalso
        rw [hr3] at h
        exact hc1 h
      · rw [ht3, hma] at h
        rw [hr3]
        split at h
        · assumption
        · exact h
  · have hf : ∀ all, P.look x all = (noPage, P, ⟨0, 0, 0⟩, P.asked x) := fun all => by
      unfold Pair.look
      rw [if_pos ha]
    rw [hf false, hf true]
    exact ⟨fun h => (ha h).elim, fun h => (ha h).elim, ⟨fun _ => rfl, fun _ => rfl⟩, ⟨by simp, by simp⟩, fun _ => ⟨rfl, rfl⟩, fun h => ⟨h, rfl, rfl⟩, fun h => h, fun h => h, ⟨Int.le_refl _, by simp⟩⟩
end Suture
/-
  WRITES THAT SUCCEED, in plain Lean.
  Conditions: none.
-/
namespace Suture
open Go Go.RowKit Go.Proofs

/-- a pair of 32 pages with the power on and no fuse; its disks that are on may be, with at most n writes -/
structure Fit (n : Nat) (P : Pair) : Prop where
  down : P.down = false
  fuse : P.fuse < 0
  size : ∀ d, d < 2 → (P.disk d).size = 32
  disk : ∀ d, d < 2 → (P.disk d).off = false → (P.disk d).may = true ∧ (P.disk d).cache.length ≤ n
theorem Fit.burns {n : Nat} {P : Pair} (h : Fit n P) : P.burns = true ∧ P.burn = P := by
  have e : burnF P.fuse P.down = (P.fuse, false, true) := by
    unfold burnF
    rw [h.down]
    have := h.fuse
    rw [if_neg Bool.false_ne_true, if_neg (by omega), if_neg (by omega)]
  constructor
  · unfold Pair.burns; rw [e]
  · unfold Pair.burn; rw [e]
    have := h.down
    cases P
    simp at this
    simp [this]
theorem Fit.putE {n : Nat} {P : Pair} (h : Fit n P) (hn : n < 2000) {d : Nat} (hd : d < 2) (ho : (P.disk d).off = false) {a : Int} (h0 : 0 ≤ a) (h1 : a < 32) : P.putE d a = 0 := by
  obtain ⟨hm, hc⟩ := h.disk d hd ho
  have hs := h.size d hd
  unfold Pair.putE
  rw [if_pos h.burns.1]
  unfold Disk.writeE Disk.asked
  rw [hm, ho, hs]
  have e : (!true || decide (a < 0) || decide ((32 : Int) ≤ a)) = false := by simp; omega
  rw [e]
  simp
  omega
theorem Fit.put {n : Nat} {P : Pair} (h : Fit n P) (hn : n < 2000) {d : Nat} (hd : d < 2) (ho : (P.disk d).off = false) {a : Int} (h0 : 0 ≤ a) (h1 : a < 32) (p : List (BitVec 8)) : Fit (n + 1) (P.put d a p) := by
  have he := h.putE hn hd ho h0 h1
  have hw := (putE_zero he).2
  have hdisk : ∀ j, j < 2 → (P.put d a p).disk j = if j = d then (P.disk d).put a p else P.disk j := fun j hj => pput_disk hd hj he
  have hput : P.put d a p = P.burn.set d ((P.disk d).put a p) := by unfold Pair.put; rw [if_pos he]
  refine ⟨?_, ?_, fun j hj => ?_, fun j hj hjo => ?_⟩
  · rw [hput, h.burns.2]; unfold Pair.set; split <;> exact h.down
  · rw [hput, h.burns.2]; unfold Pair.set; split <;> exact h.fuse
  · rw [hdisk j hj]
    split
    · exact h.size d hd
    · exact h.size j hj
  · rw [hdisk j hj] at hjo ⊢
    split at hjo
    · rename_i e
      rw [if_pos e, put_may hw]
      obtain ⟨hm, hc⟩ := h.disk d hd ho
      refine ⟨hm, ?_⟩
      show ((P.disk d).cache ++ [(a, p)]).length ≤ n + 1
      simp; exact hc
    · rename_i e
      rw [if_neg e]
      obtain ⟨hm, hc⟩ := h.disk j hj hjo
      exact ⟨hm, by omega⟩
/-- a place on a disk that is on -/
def Pair.place (P : Pair) (c : Int × Int) : Prop := onPair c ∧ (P.disk c.1.toNat).off = false ∧ 0 ≤ c.2 ∧ c.2 < 32
theorem place_put {P : Pair} {c b : Int × Int} {p : List (BitVec 8)} (h : P.place c) (hb : onPair b) : (P.put b.1.toNat b.2 p).place c :=
  ⟨h.1, by rw [pput_off (onPair_lt hb) (onPair_lt h.1)]; exact h.2.1, h.2.2⟩
theorem Fit.mend (pg : List (BitVec 8)) : ∀ (bs : List (Int × Int)) (P : Pair) (n : Nat) (m : Int), Fit n P → n + bs.length < 2000 → (∀ c ∈ bs, P.place c) → (mendAll pg bs P m).2.2 = 0 ∧ Fit (n + bs.length) (mendAll pg bs P m).1
  | [], P, n, m, h, _, _ => ⟨rfl, h⟩
  | c :: l, P, n, m, h, hn, hp => by
    have hc := hp c (by simp)
    rw [List.length_cons] at hn
    have he := h.putE (by omega) (onPair_lt hc.1) hc.2.1 hc.2.2.1 hc.2.2.2
    rw [mendAll, if_pos he]
    have ih := Fit.mend pg l (P.put c.1.toNat c.2 pg) (n + 1) (m + 1) (h.put (by omega) (onPair_lt hc.1) hc.2.1 hc.2.2.1 hc.2.2.2 pg) (by omega) (fun d hd => place_put (hp d (by simp [hd])) hc.1)
    refine ⟨ih.1, ?_⟩
    have e : n + (c :: l).length = n + 1 + l.length := by rw [List.length_cons]; omega
    rw [e]
    exact ih.2

theorem Fit.total {n : Nat} {P : Pair} (h : Fit n P) : P.size = 32 := by
  have h0 : (P.d0.pages.length : Int) = 32 := h.size 0 (by omega)
  have h1 : (P.d1.pages.length : Int) = 32 := h.size 1 (by omega)
  unfold Pair.size
  rw [h0, h1]; rfl
theorem Fit.mono {n m : Nat} {P : Pair} (h : Fit n P) (hm : n ≤ m) : Fit m P := ⟨h.down, h.fuse, h.size, fun d hd ho => ⟨(h.disk d hd ho).1, Nat.le_trans (h.disk d hd ho).2 hm⟩⟩

/-- each copy on a disk that is on reads as one of two pages, one of them as the first -/
structure Kept (n : Nat) (P : Pair) (x : Ptr) (page other : List (BitVec 8)) : Prop where
  fit : Fit n P
  asked : P.asked x = 0
  reads : ∀ c ∈ P.found x, (P.disk c.1.toNat).read c.2 = (page, 0) ∨ (P.disk c.1.toNat).read c.2 = (other, 0)
  some : ∃ c ∈ P.found x, (P.disk c.1.toNat).read c.2 = (page, 0)
  place : ∀ c ∈ P.found x, 0 ≤ c.2 ∧ c.2 < 32
theorem found_place {n : Nat} {P : Pair} {x : Ptr} {page other : List (BitVec 8)} (h : Kept n P x page other) {c : Int × Int} (hc : c ∈ P.found x) : P.place c :=
  ⟨found_on hc, by have := (List.mem_filter.1 hc).2; unfold Pair.lives at this; simpa using this, h.place c hc⟩
theorem Kept.look {n : Nat} {P : Pair} {x : Ptr} {page other : List (BitVec 8)} (h : Kept n P x page other) (hf : x.fits page = true) (ho : x.fits other = false) (hn : n + 4 < 2000) (all : Bool) :
    (P.look x all).2.2.2 = 0 ∧ (P.look x all).1 = page ∧ Kept (n + 4) (P.look x all).2.1 x page other ∧ (P.look x all).2.1.found x = P.found x ∧ (P.look x all).2.2.1.r = ((P.seen x all).length : Int) := by
  have hrt : ∀ c ∈ P.found x, P.isRight x c = true → P.has c = page := fun c hc hr => by
    rcases h.reads c hc with e | e
    · unfold Pair.has; rw [e]
    · exfalso
      have := (right_read hr).2
      rw [e, ho] at this
      cases this
  have hany : (P.found x).any (P.isRight x) = true := by
    obtain ⟨c, hc, hr⟩ := h.some
    refine List.any_eq_true.2 ⟨c, hc, ?_⟩
    unfold Pair.isRight Pair.has
    rw [hr]
    simp [hf]
  obtain ⟨ys, hys⟩ : ∃ ys, P.seen x all = ys := ⟨_, rfl⟩
  have hsub : ∀ c ∈ ys, c ∈ P.found x := fun c hc => by rw [← hys] at hc; exact List.mem_of_mem_take hc
  have hya : ys.any (P.isRight x) = true := by
    cases all with
    | true => rw [← hys, seen_all]; exact hany
    | false =>
      obtain ⟨l1, c, l2, e1, e2, e3, e4⟩ := look_split (P.isRight x) (P.found x) hany
      rw [← hys]
      unfold Pair.seen
      rw [e4, e1, List.take_append, List.take_of_length_le (by omega), Nat.add_sub_cancel_left]
      simp [e3]
  have hpg : P.pageIn x ys = page := by
    unfold Pair.pageIn
    obtain ⟨y, hy, hr⟩ := List.any_eq_true.1 hya
    cases hfi : ys.find? (P.isRight x) with
    | none => have := List.find?_eq_none.1 hfi y hy; simp [hr] at this
    | some z => exact hrt z (hsub z (List.mem_of_find?_eq_some hfi)) (List.find?_some hfi)
  have hlen : ys.length ≤ 4 := by
    rw [← hys]
    unfold Pair.seen Pair.found
    have h2 := List.length_filter_le P.lives x.copies
    have h3 : x.copies.length ≤ 4 := by unfold Ptr.copies; split <;> simp
    rw [List.length_take]
    omega
  have hbl : (P.badIn x ys).length ≤ 4 := Nat.le_trans (List.length_filter_le _ _) hlen
  have hbm : ∀ c ∈ P.badIn x ys, c ∈ P.found x := fun c hc => hsub c (List.mem_filter.1 hc).1
  obtain ⟨m1, m2⟩ := Fit.mend page (P.badIn x ys) P n 0 h.fit (by omega) (fun c hc => found_place h (hbm c hc))
  have hon : ∀ c ∈ P.badIn x ys, onPair c := fun c hc => found_on (hbm c hc)
  obtain ⟨r1, r2, r3⟩ := mend_read page (P.badIn x ys) P 0 hon m1
  have hoff : ∀ j, j < 2 → ((mendAll page (P.badIn x ys) P 0).1.disk j).off = (P.disk j).off := fun j hj => mend_off page hj _ _ _ hon
  have hl : P.look x all = (page, (mendAll page (P.badIn x ys) P 0).1, ⟨ys.length, (P.badIn x ys).length, (mendAll page (P.badIn x ys) P 0).2.1⟩, 0) := by
    rw [look_of_seen h.asked hys, hya, hpg]
    unfold lookEnd
    rw [if_pos rfl, if_pos m1]
  rw [hl, hys]
  generalize (mendAll page (P.badIn x ys) P 0).1 = O at *
  have hfo : O.found x = P.found x := by
    unfold Pair.found
    refine List.filter_congr fun c hc => ?_
    unfold Pair.lives
    rw [hoff]
    unfold Ptr.copies at hc
    split at hc <;> simp at hc <;> rcases hc with rfl | rfl | rfl | rfl <;> simp
  have hrd : ∀ c ∈ P.found x, (O.disk c.1.toNat).read c.2 = (page, 0) ∨ (O.disk c.1.toNat).read c.2 = (P.disk c.1.toNat).read c.2 := fun c hc => by
    by_cases hb : c ∈ P.badIn x ys
    · exact .inl (r1 c (found_on hc) hb)
    · exact .inr (r2 c (found_on hc) hb)
  refine ⟨rfl, rfl, ⟨m2.mono (by omega), ?_, fun c hc => ?_, ?_, fun c hc => by rw [hfo] at hc; exact h.place c hc⟩, hfo, rfl⟩
  · have ha := h.asked
    obtain ⟨hd, hr⟩ := asked_right ha
    have o0 := hoff 0 (by omega)
    have o1 := hoff 1 (by omega)
    have e0 : O.d0.off = P.d0.off := o0
    have e1 : O.d1.off = P.d1.off := o1
    unfold Pair.asked at ha ⊢
    rw [m2.down, m2.total, e0, e1]
    rw [hd, h.fit.total] at ha
    exact ha
  · rw [hfo] at hc
    rcases hrd c hc with e | e
    · exact .inl e
    · rw [e]; exact h.reads c hc
  · obtain ⟨c, hc, hr⟩ := h.some
    refine ⟨c, by rw [hfo]; exact hc, ?_⟩
    rcases hrd c hc with e | e
    · exact e
    · rw [e]; exact hr
end Suture
/-
  WHICH DISKS ARE ON, as the document counts them: sutureref10.Live.
  Conditions: none beyond the pair's own reading.
-/
namespace Suture
open Go Go.RowKit Go.Proofs
attribute [local go_sem] Oper.semAt_some

/-- the disks that are on, counted up to the i-th -/
def Pair.liveN (P : Pair) (i : Nat) : Int := if i = 0 then 0 else if i = 1 then (if P.d0.off then 0 else 1) else (if P.d0.off then 0 else 1) + (if P.d1.off then 0 else 2)

set_option maxHeartbeats 2000000 in
set_option maxRecDepth 100000 in
theorem rlive_calls (v : PV) (P : Pair) (w : World) (hv : PairAt All w v P) :
    Calls Try.prog 39 #[.agg v.cells] w fun e w' => e = .returned (.int .u8 (P.liveN 2)) ∧ Agrees All w w' := by
  obtain ⟨W1, hW1⟩ : ∃ W1, w.alloc (.cells v.cells 40) = W1 := ⟨_, rfl⟩
  have HA := Lib.hid (show Agrees All w W1 by rw [← hW1]; exact (Agrees.refl _ _).alloc _)
  have hr : W1.heap[w.heap.size]? = some (.cells v.cells 40 (0, 0)) := by rw [← hW1]; exact row_new _ rfl
  have c3 : W1.cell? ⟨w.heap.size, 3, none⟩ = some (.bool P.d0.off) := by rw [cell_of_row _ _ _ _ _ _ hr, hv.d0.off]; rfl
  have c7 : W1.cell? ⟨w.heap.size, 7, none⟩ = some (.bool P.d1.off) := by rw [cell_of_row _ _ _ _ _ _ hr, hv.d1.off]; rfl
  have HN : RowKit.Hid (∀ i, P.liveN i = if i = 0 then 0 else if i = 1 then (if P.d0.off then 0 else 1) else (if P.d0.off then 0 else 1) + (if P.d1.off then 0 else 2)) := Lib.hid fun _ => rfl
  clear hr hv
  generalize P.d0.off = f0 at *
  generalize P.d1.off = f1 at *
  go_enter Try.func39, Try.ntmps39
  go_wp2_with fail
  go_loop [3, 4] (fun c z => ∃ i : Nat, i ≤ 2 ∧ z = .int .i64 i ∧ c = .int .u8 (P.liveN i)) (fun _ z => 2 - (intOf z).toNat)
  case atStart => exact ⟨0, by omega, rfl, by rw [HN.out]; rfl⟩
  case round =>
    obtain ⟨i, hi, rfl, rfl⟩ := hrel
    have h3 : i = 0 ∨ i = 1 ∨ i = 2 := by omega
    rcases h3 with rfl | rfl | rfl
    · have e0 : P.liveN 0 = 0 := by rw [HN.out]; rfl
      rw [e0]
      cases f0
      · go_wp2_with fail
        go_round
        case rel => exact ⟨1, by omega, by go_num, by rw [HN.out]; rfl⟩
        case measure => simp [intOf]
      · go_wp2_with fail
        go_round
        case rel => exact ⟨1, by omega, by go_num, by rw [HN.out]; rfl⟩
        case measure => simp [intOf]
    · have e1 : P.liveN 1 = if f0 then 0 else 1 := by rw [HN.out]; rfl
      rw [e1]
      have e2 := Lib.hid (HN.out 2)
      cases f0 <;> cases f1
      all_goals
        simp only [Bool.false_eq_true, if_true, if_false]
        go_wp2_with fail
        go_round
        case rel => exact ⟨2, by omega, by go_num, by rw [HN.out]; rfl⟩
        case measure => simp [intOf]
    · go_wp2_with fail
      go_ret
      exact ⟨rfl, HA.out⟩
end Suture
/-
  A PAIR PUT TO, IN A REGION THAT DRAWS ITS ORDER: what holds of the world while it is carried out (no program of its own).
  Conditions: none beyond the pair's own reading.
-/
namespace Suture
open Go Go.RowKit Go.Proofs

/-- where the pair's rows stand: not in the box -/
def RB (R0 : Nat → Prop) (W0 : World) (l : Bool) (bx : Value) (k : Nat) : Prop := (R0 k ∨ W0.heap.size ≤ k) ∧ (l = true → bx ≠ .pointer (some ⟨k, 0, none⟩))
/-- calls at c, moved at m, taken out at x; a box made at b, filled at s -/
structure PutW (c m x b s : Nat) (R0 : Nat → Prop) (W0 : World) (er : Int) (P' : Pair) (L : Nat → Bool) (vals : Nat → Value) (W : World) : Prop where
  ag : Agrees All W0 W
  wr : L c = true → ∃ q : PV, vals c = .tuple #[.agg q.cells, .int .i64 er] ∧ PairAt (RB R0 W0 (L b) (vals b)) W q P'
  mv : L m = true → ∃ q : PV, vals m = .tuple #[.agg q.cells, .int .i64 er] ∧ PairAt (RB R0 W0 (L b) (vals b)) W q P'
  ex : L x = true → ∃ q : PV, vals x = .agg q.cells ∧ PairAt (RB R0 W0 (L b) (vals b)) W q P'
  bx : L b = true → ∃ k, vals b = .pointer (some ⟨k, 0, none⟩) ∧ W0.heap.size ≤ k ∧ W.heap[k]? = some (.cells (if L s = true then (vals x).cells else PV.zero.cells) 40 (0, 0))
section
variable {c m x b s : Nat} {R0 : Nat → Prop} {W0 : World} {er : Int} {P' : Pair} {L : Nat → Bool} {vals : Nat → Value} {W W' : World}
theorem PutW.other (h : PutW c m x b s R0 W0 er P' L vals W) {i : Nat} (hc : c ≠ i) (hm : m ≠ i) (hx : x ≠ i) (hb : b ≠ i) (hs : s ≠ i) (v : Value) : PutW c m x b s R0 W0 er P' (setL L i) (updV vals i v) W := by
  refine ⟨h.ag, ?_, ?_, ?_, ?_⟩
  · rw [setL_at hc.symm, updV_at hc.symm, setL_at hb.symm, updV_at hb.symm]; exact h.wr
  · rw [setL_at hm.symm, updV_at hm.symm, setL_at hb.symm, updV_at hb.symm]; exact h.mv
  · rw [setL_at hx.symm, updV_at hx.symm, setL_at hb.symm, updV_at hb.symm]; exact h.ex
  · rw [setL_at hb.symm, updV_at hb.symm, setL_at hs.symm, updV_at hx.symm]; exact h.bx
theorem PutW.agrees (h : PutW c m x b s R0 W0 er P' L vals W) (g : Agrees All W W') : PutW c m x b s R0 W0 er P' L vals W' :=
  ⟨h.ag.trans g, fun e => by obtain ⟨q, h1, h2⟩ := h.wr e; exact ⟨q, h1, h2.agrees g fun _ _ => trivial⟩, fun e => by obtain ⟨q, h1, h2⟩ := h.mv e; exact ⟨q, h1, h2.agrees g fun _ _ => trivial⟩,
    fun e => by obtain ⟨q, h1, h2⟩ := h.ex e; exact ⟨q, h1, h2.agrees g fun _ _ => trivial⟩, fun e => by obtain ⟨k, h1, h2, h3⟩ := h.bx e; exact ⟨k, h1, h2, (g.block _ (Array.getElem?_eq_some_iff.1 h3).1 trivial).trans h3⟩⟩
theorem PutW.call (h : PutW c m x b s R0 W0 er P' L vals W) (hR : ∀ k, R0 k → k < W0.heap.size) (hm : m ≠ c) (hx : x ≠ c) (hb : b ≠ c) (hs : s ≠ c) {q : PV} (hq : PairAt (fun k => R0 k ∨ W.heap.size ≤ k) W' q P') (g : Agrees All W W') :
    PutW c m x b s R0 W0 er P' (setL L c) (updV vals c (.tuple #[.agg q.cells, .int .i64 er])) W' := by
  have h' := h.agrees g
  refine ⟨h'.ag, ?_, ?_, ?_, ?_⟩
  · rw [setL_at hb.symm, updV_at hb.symm]
    refine fun _ => ⟨q, updV_same, hq.mono fun k hk => ⟨?_, fun e he => ?_⟩⟩
    · rcases hk with hk | hk
      · exact .inl hk
      · exact .inr (Nat.le_trans h.ag.size hk)
    · obtain ⟨k', h1, h2, h3⟩ := h.bx e
      have hlt := (Array.getElem?_eq_some_iff.1 h3).1
      rw [h1] at he
      have hk' : k' = k := by simpa using he
      subst hk'
      rcases hk with hk | hk
      · have := hR _ hk; omega
      · omega
  · rw [setL_at hm.symm, updV_at hm.symm, setL_at hb.symm, updV_at hb.symm]; exact h'.mv
  · rw [setL_at hx.symm, updV_at hx.symm, setL_at hb.symm, updV_at hb.symm]; exact h'.ex
  · rw [setL_at hb.symm, updV_at hb.symm, setL_at hs.symm, updV_at hx.symm]; exact h'.bx
theorem PutW.move (h : PutW c m x b s R0 W0 er P' L vals W) (hc : c ≠ m) (hx : x ≠ m) (hb : b ≠ m) (hs : s ≠ m) {u : Value} (hq : ∃ q : PV, u = .tuple #[.agg q.cells, .int .i64 er] ∧ PairAt (RB R0 W0 (L b) (vals b)) W q P') :
    PutW c m x b s R0 W0 er P' (setL L m) (updV vals m u) W := by
  refine ⟨h.ag, ?_, ?_, ?_, ?_⟩
  · rw [setL_at hc.symm, updV_at hc.symm, setL_at hb.symm, updV_at hb.symm]; exact h.wr
  · rw [setL_at hb.symm, updV_at hb.symm]; intro _; rw [updV_same]; exact hq
  · rw [setL_at hx.symm, updV_at hx.symm, setL_at hb.symm, updV_at hb.symm]; exact h.ex
  · rw [setL_at hb.symm, updV_at hb.symm, setL_at hs.symm, updV_at hx.symm]; exact h.bx
theorem PutW.take (h : PutW c m x b s R0 W0 er P' L vals W) (hc : c ≠ x) (hm : m ≠ x) (hb : b ≠ x) (hs : s ≠ x) {q : PV} (hq : PairAt (RB R0 W0 (L b) (vals b)) W q P') (hL : L s = false) :
    PutW c m x b s R0 W0 er P' (setL L x) (updV vals x (.agg q.cells)) W := by
  refine ⟨h.ag, ?_, ?_, ?_, ?_⟩
  · rw [setL_at hc.symm, updV_at hc.symm, setL_at hb.symm, updV_at hb.symm]; exact h.wr
  · rw [setL_at hm.symm, updV_at hm.symm, setL_at hb.symm, updV_at hb.symm]; exact h.mv
  · rw [setL_at hb.symm, updV_at hb.symm]; exact fun _ => ⟨q, updV_same, hq⟩
  · rw [setL_at hb.symm, updV_at hb.symm, setL_at hs.symm, hL]
    intro e
    have := h.bx e
    rwa [hL] at this
theorem PutW.box (h : PutW c m x b s R0 W0 er P' L vals W) (hc : c ≠ b) (hm : m ≠ b) (hx : x ≠ b) (hs : s ≠ b) (hL : L s = false) :
    PutW c m x b s R0 W0 er P' (setL L b) (updV vals b (.pointer (some ⟨W.heap.size, 0, none⟩))) (W.alloc (.cells PV.zero.cells 40)) := by
  have g := (Agrees.refl All W).alloc (.cells PV.zero.cells 40)
  have k : ∀ {q : PV}, PairAt (RB R0 W0 (L b) (vals b)) W q P' → PairAt (RB R0 W0 (setL L b b) (updV vals b (.pointer (some ⟨W.heap.size, 0, none⟩)) b)) (W.alloc (.cells PV.zero.cells 40)) q P' := fun hq => by
    refine (hq.both.agrees g fun _ _ => trivial).mono fun k hk => ⟨hk.1.1, fun _ he => ?_⟩
    rw [updV_same] at he
    have hlt := hk.2
    rw [Value.pointer.injEq, Option.some.injEq, Addr.mk.injEq] at he
    omega
  refine ⟨h.ag.trans g, ?_, ?_, ?_, ?_⟩
  · rw [setL_at hc.symm, updV_at hc.symm]; intro e; obtain ⟨q, h1, h2⟩ := h.wr e; exact ⟨q, h1, k h2⟩
  · rw [setL_at hm.symm, updV_at hm.symm]; intro e; obtain ⟨q, h1, h2⟩ := h.mv e; exact ⟨q, h1, k h2⟩
  · rw [setL_at hx.symm, updV_at hx.symm]; intro e; obtain ⟨q, h1, h2⟩ := h.ex e; exact ⟨q, h1, k h2⟩
  · intro _
    refine ⟨W.heap.size, updV_same, h.ag.size, ?_⟩
    rw [setL_at hs.symm, hL, if_neg Bool.false_ne_true]
    exact World.alloc_heap_new _ _
theorem PutW.fill (h : PutW c m x b s R0 W0 er P' L vals W) (hc : c ≠ s) (hm : m ≠ s) (hx : x ≠ s) (hb : b ≠ s) (hLb : L b = true) {k : Nat} {q : PV} (hk : vals b = .pointer (some ⟨k, 0, none⟩)) (hr : W.heap[k]? = some (.cells PV.zero.cells 40 (0, 0))) (hq : vals x = .agg q.cells) :
    PutW c m x b s R0 W0 er P' (setL L s) (updV vals s undef) (W.setRow k q.cells) := by
  have g : Agrees (fun j => j ≠ k) W (W.setRow k q.cells) := (Agrees.refl _ _).setRow (.inl fun h => h rfl) _
  have hlo : W0.heap.size ≤ k := by
    obtain ⟨k', h1, h2, _⟩ := h.bx hLb
    rw [hk] at h1
    have : k = k' := by simpa using h1
    omega
  have t2 : ∀ {q' : PV}, PairAt (RB R0 W0 (L b) (vals b)) W q' P' → PairAt (RB R0 W0 (L b) (vals b)) (W.setRow k q.cells) q' P' := fun hp => hp.agrees g fun j hj e => by
    subst e
    exact hj.2 hLb hk
  refine ⟨h.ag.setRow (.inr hlo) _, ?_, ?_, ?_, ?_⟩
  · rw [setL_at hc.symm, updV_at hc.symm, setL_at hb.symm, updV_at hb.symm]; intro e; obtain ⟨q', h1, h2⟩ := h.wr e; exact ⟨q', h1, t2 h2⟩
  · rw [setL_at hm.symm, updV_at hm.symm, setL_at hb.symm, updV_at hb.symm]; intro e; obtain ⟨q', h1, h2⟩ := h.mv e; exact ⟨q', h1, t2 h2⟩
  · rw [setL_at hx.symm, updV_at hx.symm, setL_at hb.symm, updV_at hb.symm]; intro e; obtain ⟨q', h1, h2⟩ := h.ex e; exact ⟨q', h1, t2 h2⟩
  · rw [setL_at hb.symm, updV_at hb.symm, updV_at hx.symm]
    intro _
    refine ⟨k, hk, hlo, ?_⟩
    rw [setRow_heap _ _ _ _ _ _ hr, hq]
    simp [setL, Value.cells]
end
end Suture
/-
  THE PLAN of sutureref10.Write's region that puts.
  Conditions: none beyond the pair's own reading.
-/
namespace Suture
open Go Go.RowKit Go.Proofs
attribute [local go_sem] Oper.semAt_some

def vRw (g cap nc i d : Nat) (vi : PV) (at' : Int) (p : List (BitVec 8)) : Nat → Value → Prop
  | 0, val => val = .agg vi.cells
  | 1, val => val = .slice (some ⟨g, 0, none⟩) nc cap
  | 2, val => val = .int .i64 (i : Int)
  | 3, val => val = .pointer (some ⟨g, 0 + i * 2, none⟩)
  | 4, val => val = .pointer (some ⟨g, 0 + i * 2 + 0 * 1, none⟩)
  | 5, val => val = .int .i64 (d : Int)
  | 6, val => val = .slice (some ⟨g, 0, none⟩) nc cap
  | 7, val => val = .int .i64 (i : Int)
  | 8, val => val = .pointer (some ⟨g, 0 + i * 2, none⟩)
  | 9, val => val = .pointer (some ⟨g, 0 + i * 2 + 1 * 1, none⟩)
  | 10, val => val = .int .i64 at'
  | 11, val => val = .agg (pageCells p)
  | 12, val => ∃ q : PV, val = .tuple #[.agg q.cells, .int .i64 0]
  | 13, val => ∃ q : PV, val = .tuple #[.agg q.cells, .int .i64 0]
  | 14, val => ∃ q : PV, val = .agg q.cells
  | 15, val => val = .int .i64 0
  | 16, val => ∃ b, val = .pointer (some ⟨b, 0, none⟩)
  | 17, val => val = undef
  | 18, val => val = .int .i64 0
  | _, _ => True
end Suture
/-
  A PAGE WRITTEN TO ALL COPIES, as the document says: sutureref10.Write, where the power and all disks are on and each put succeeds.
  Conditions: those.
-/
namespace Suture
open Go Go.RowKit Go.Proofs
attribute [local go_sem] Oper.semAt_some

/-- the pair behind the puts of p on l -/
def Pair.puts (P : Pair) (p : List (BitVec 8)) (l : List (Int × Int)) : Pair := (mendAll p l P 0).1
def Pair.putsE (P : Pair) (p : List (BitVec 8)) (l : List (Int × Int)) : Int := (mendAll p l P 0).2.2
theorem mend_count (p : List (BitVec 8)) : ∀ (l : List (Int × Int)) (P : Pair) (m m' : Int), (mendAll p l P m).1 = (mendAll p l P m').1 ∧ (mendAll p l P m).2.2 = (mendAll p l P m').2.2
  | [], _, _, _ => ⟨rfl, rfl⟩
  | c :: l, P, m, m' => by
    rw [mendAll, mendAll]
    split
    · exact mend_count p l _ _ _
    · exact ⟨rfl, rfl⟩
theorem puts_snoc {P : Pair} {p : List (BitVec 8)} {l : List (Int × Int)} {c : Int × Int} (h : P.putsE p l = 0) :
    P.puts p (l ++ [c]) = (P.puts p l).put c.1.toNat c.2 p ∧ P.putsE p (l ++ [c]) = (P.puts p l).putE c.1.toNat c.2 := by
  unfold Pair.puts Pair.putsE at *
  rw [mend_append, if_pos h, mendAll]
  by_cases he : (mendAll p l P 0).1.putE c.1.toNat c.2 = 0
  · rw [if_pos he]; exact ⟨rfl, he.symm⟩
  · rw [if_neg he]; exact ⟨rfl, rfl⟩
theorem puts_take {P : Pair} {p : List (BitVec 8)} {l : List (Int × Int)} (h : P.putsE p l = 0) (k : Nat) : P.putsE p (l.take k) = 0 := by
  have e : l.take k ++ l.drop k = l := List.take_append_drop k l
  unfold Pair.putsE at *
  rw [← e, mend_append] at h
  split at h
  · assumption
  · exact h

theorem list_rows2 {W : World} {base : Nat} {l : Value} {bads : List (Int × Int)} (h : W.ownsRow base 55 2 l bads.length (bads.map copyL).flatten) (hp : 0 < bads.length) :
    ∃ g cur cap, l = .slice (some ⟨g, 0, none⟩) bads.length cap ∧ base ≤ g ∧ W.heap[g]? = some (.cells cur 55 (0, 0)) ∧ ∀ i, i < bads.length → ∀ j, j < 2 → cur[i * 2 + j]? = (copyL (bads.getD i (0, 0))).toArray[j]? := by
  obtain ⟨hxs, hcase⟩ := h
  rcases hcase with ⟨rfl, hn⟩ | ⟨g, cap, cur, rfl, hg0, hgr, hcap, hmax, hcs, hct⟩
  · omega
  · refine ⟨g, cur, cap, rfl, hg0, hgr, fun i hi j hj => ?_⟩
    rw [← Array.getElem?_toList, ← Array.getElem?_toList, List.toList_toArray, ← flat_two bads i hi j hj, ← hct, List.getElem?_take_of_lt (by omega)]

/-- where the pair's rows stand, the region entered -/
def rwR (R0 : Nat → Prop) (n s k : Nat) : Prop := (R0 k ∧ k < n ∨ n + 4 ≤ k) ∧ k < s
/-- the boxes of the walk -/
structure RwBox (R0 : Nat → Prop) (w : World) (n g cap nc : Nat) (vi : PV) (x : Ptr) (p : List (BitVec 8)) (Pi : Pair) (W : World) : Prop where
  ag : Agrees All w W
  r0 : W.heap[n]? = some (.cells vi.cells 40 (0, 0))
  r2 : W.heap[n + 1 + 1]? = some (.cells (pageCells p) 32 (0, 0))
  r3 : W.heap[n + 1 + 1 + 1]? = some (.cells PV.zero.cells 40 (0, 0))
  gl : g < W.heap.size
  gc : ∀ i, i < nc → ∀ j, j < 2 → W.cell? ⟨g, i * 2 + j, none⟩ = (copyL (x.copies.getD i (0, 0))).toArray[j]?
  gn : n + 4 ≤ g
  pair : PairAt (fun k => R0 k ∧ k < n ∨ n + 4 ≤ k) W vi Pi
theorem RwBox.agrees {R0 : Nat → Prop} {w : World} {n g cap nc : Nat} {vi : PV} {x : Ptr} {p : List (BitVec 8)} {Pi : Pair} {W W' : World} (h : RwBox R0 w n g cap nc vi x p Pi W) (a : Agrees All W W') : RwBox R0 w n g cap nc vi x p Pi W' := by
  have k : ∀ {b : Nat} {o : Obj}, W.heap[b]? = some o → W'.heap[b]? = some o := fun hb => (a.block _ (Array.getElem?_eq_some_iff.1 hb).1 trivial).trans hb
  exact ⟨h.ag.trans a, k h.r0, k h.r2, k h.r3, Nat.lt_of_lt_of_le h.gl a.size, fun i hi j hj => (a.cell (p := ⟨g, i * 2 + j, none⟩) h.gl trivial).trans (h.gc i hi j hj), h.gn, h.pair.agrees a fun _ _ => trivial⟩

set_option maxHeartbeats 8000000 in
set_option maxRecDepth 100000 in
theorem rpwrite_calls (R0 : Nat → Prop) (v : PV) (P : Pair) (x : Ptr) (hx : x.ok) (p : List (BitVec 8)) (hp : p.length = 256) (w : World) (hv : PairAt R0 w v P) (hlow : P.low) (hdn : P.down = false) (hlv : (P.liveN 2 == 0) = false) (hon : ∀ d, d < 2 → (P.disk d).off = false) (hok : P.putsE p x.copies = 0) :
    Calls Try.prog 17 #[.agg v.cells, .agg x.cells, .agg (pageCells p)] w fun e w' => ∃ v' : PV, e = .returned (.tuple #[.agg v'.cells, .int .i64 0]) ∧ RowKit.Hid (PairAt (fun b => R0 b ∨ w.heap.size ≤ b) w' v' (P.puts p x.copies) ∧ Agrees All w w') := by
  obtain ⟨W1, hW1⟩ : ∃ W1, w.alloc (.cells v.cells 40) = W1 := ⟨_, rfl⟩
  obtain ⟨W2, hW2⟩ : ∃ W2, W1.alloc (.cells x.cells 48) = W2 := ⟨_, rfl⟩
  obtain ⟨W3, hW3⟩ : ∃ W3, W2.alloc (.cells (pageCells p) 32) = W3 := ⟨_, rfl⟩
  obtain ⟨W4, hW4⟩ : ∃ W4, W3.alloc (.cells PV.zero.cells 40) = W4 := ⟨_, rfl⟩
  have hs1 : W1.heap.size = w.heap.size + 1 := by rw [← hW1]; simp
  have hs2 : W2.heap.size = w.heap.size + 1 + 1 := by rw [← hW2]; simp [hs1]
  have hs3 : W3.heap.size = w.heap.size + 1 + 1 + 1 := by rw [← hW3]; simp [hs2]
  have hs4 : W4.heap.size = w.heap.size + 1 + 1 + 1 + 1 := by rw [← hW4]; simp [hs3]
  have hA4 : Agrees All w W4 := by rw [← hW4, ← hW3, ← hW2, ← hW1]; exact ((((Agrees.refl _ w).alloc _).alloc _).alloc _).alloc _
  have HR0 := Lib.hid (show W4.heap[w.heap.size]? = some (.cells v.cells 40 (0, 0)) by rw [← hW4, ← hW3, ← hW2, ← hW1]; exact row_old (row_old (row_old (row_new _ rfl))))
  have HR1 := Lib.hid (show W4.heap[w.heap.size + 1]? = some (.cells x.cells 48 (0, 0)) by rw [← hW4, ← hW3, ← hW2]; exact row_old (row_old (row_new _ hs1)))
  have HR2 := Lib.hid (show W4.heap[w.heap.size + 1 + 1]? = some (.cells (pageCells p) 32 (0, 0)) by rw [← hW4, ← hW3]; exact row_old (row_new _ hs2))
  have HR3 := Lib.hid (show W4.heap[w.heap.size + 1 + 1 + 1]? = some (.cells PV.zero.cells 40 (0, 0)) by rw [← hW4]; exact row_new _ hs3)
  have HLV := Lib.hid (rlive_calls v P W4 ((hv.mono (S := All) fun _ _ => trivial).agrees hA4 fun _ _ => trivial))
  have HV := Lib.hid hv.both
  have HA4 := Lib.hid hA4
  have c9 : W4.cell? ⟨w.heap.size, 9, none⟩ = some (.bool false) := by rw [cell_of_row _ _ _ _ _ _ HR0.out, ← hdn, hv.down]; rfl
  have HLOW := Lib.hid hlow
  have HON := Lib.hid hon
  have HOK := Lib.hid hok
  clear hA4 hv hdn hlow hon hok
  go_enter Try.func17, Try.ntmps17
  go_wp2_with (first
    | (refine wpList_val rfl (ex_alloc rfl (.agg PV.zero.cells) zero_pair) ?_; rw [show (Value.agg PV.zero.cells).cells = PV.zero.cells from rfl, hW4, hs3])
    | (refine wpList_val rfl (ex_load (ty := 40) rfl isAgg_pair w.heap.size 0 rfl v.cells rfl (v.load HR0.out)) ?_))
  refine HLV.out.mono ?_
  rintro e W5 ⟨rfl, hag⟩
  have HQ0 := Lib.hid ((hag.block _ (Array.getElem?_eq_some_iff.1 HR0.out).1 trivial).trans HR0.out)
  have HQ1 := Lib.hid ((hag.block _ (Array.getElem?_eq_some_iff.1 HR1.out).1 trivial).trans HR1.out)
  have HQ2 := Lib.hid ((hag.block _ (Array.getElem?_eq_some_iff.1 HR2.out).1 trivial).trans HR2.out)
  have HQ3 := Lib.hid ((hag.block _ (Array.getElem?_eq_some_iff.1 HR3.out).1 trivial).trans HR3.out)
  have HA5 := Lib.hid (HA4.out.trans hag)
  have hs5 : w.heap.size + 4 ≤ W5.heap.size := by have := hag.size; omega
  clear hag c9 HR0 HR1 HR2 HR3 HA4 HLV hW1 hW2 hW3 hW4 hs1 hs2 hs3 hs4
  generalize P.liveN 2 = lv at *
  go_wp2_with (first
    | (refine wpList_val rfl (ex_load (ty := 48) rfl isAgg_ptr (w.heap.size + 1) 0 rfl x.cells rfl (x.load HQ1.out)) ?_))
  refine (rcopies_calls x hx W5).mono ?_
  rintro e W6 ⟨cu, rfl, hcu, hag⟩
  have hpos := copies_pos x
  have hle := copies_le x
  obtain ⟨g, cur, cap, rfl, hgb, hgr, hcur⟩ := list_rows2 hcu hpos
  have HB6 : RowKit.Hid (∃ vi, RwBox R0 w w.heap.size g cap x.copies.length vi x p (P.puts p (x.copies.take 0)) W6) := Lib.hid ⟨v, HA5.out.trans hag, (hag.block _ (Array.getElem?_eq_some_iff.1 HQ0.out).1 trivial).trans HQ0.out,
    (hag.block _ (Array.getElem?_eq_some_iff.1 HQ2.out).1 trivial).trans HQ2.out, (hag.block _ (Array.getElem?_eq_some_iff.1 HQ3.out).1 trivial).trans HQ3.out, (Array.getElem?_eq_some_iff.1 hgr).1,
    fun i hi j hj => by rw [cell_of_row _ _ _ _ _ _ hgr]; exact hcur i hi j hj, by omega, (HV.out.agrees (HA5.out.trans hag) fun _ _ => trivial).mono fun k hk => .inl hk⟩
  have HNC : RowKit.Hid (x.copies.length ≤ 4 ∧ 0 < x.copies.length) := ⟨hle, hpos⟩
  clear hcu hag hgr hcur hle hpos HQ0 HQ1 HQ2 HQ3 HA5 hs5 HV hgb
  generalize hncd : x.copies.length = nc at *
  have hnc4 : nc ≤ 4 := HNC.out.1
  have HNCD := Lib.hid hncd
  clear hncd
  go_wp2_with fail
  go_loopw [9] (fun ii wr => ∃ i : Nat, i ≤ nc ∧ ii = .int .i64 i ∧ RowKit.Hid (∃ vi, RwBox R0 w w.heap.size g cap nc vi x p (P.puts p (x.copies.take i)) wr)) (fun ii _ => nc - (intOf ii).toNat)
  case atStart => exact ⟨0, by omega, rfl, HB6⟩
  case round =>
    obtain ⟨i, hi, rfl, HW⟩ := hrel
    obtain ⟨vi, hbx⟩ := HW.out
    have HBX := Lib.hid hbx
    clear HW
    by_cases hlt : i < nc
    · obtain ⟨cc, hcc⟩ : ∃ cc, x.copies.getD i (0, 0) = cc := ⟨_, rfl⟩
      have hmem : cc ∈ x.copies := by rw [← hcc, List.getD_eq_getElem?_getD, List.getElem?_eq_getElem (by rw [HNCD.out]; exact hlt)]; exact List.getElem_mem _
      have hsuc : x.copies.take (i + 1) = x.copies.take i ++ [cc] := by
        rw [List.take_succ_eq_append_getElem (by rw [HNCD.out]; exact hlt)]
        rw [← hcc, List.getD_eq_getElem?_getD, List.getElem?_eq_getElem (by rw [HNCD.out]; exact hlt)]; rfl
      have hps := puts_snoc (c := cc) (puts_take HOK.out i)
      rw [← hsuc, puts_take HOK.out (i + 1)] at hps
      have hcell : ∀ j, j < 2 → wr.cell? ⟨g, i * 2 + j, none⟩ = (copyL cc).toArray[j]? := fun j hj => by rw [hbx.gc i hlt j hj, hcc]
      obtain ⟨hdk, h0a, h1a⟩ := copies_mem x hx cc hmem
      obtain ⟨dk, at'⟩ := cc
      simp only at hdk h0a h1a
      obtain ⟨d, rfl⟩ : ∃ d : Nat, dk = d := ⟨dk.toNat, by omega⟩
      have hd2 : d < 2 := by omega
      simp only [Int.toNat_natCast] at hps
      have k0 : wr.cell? ⟨g, i * 2, none⟩ = some (.int .i64 (d : Int)) := hcell 0 (by omega)
      have hoff : ((P.puts p (x.copies.take i)).disk d).off = false := by
        rw [← HON.out d hd2]
        exact mend_off p hd2 _ _ _ (fun c hc => by
          have := copies_mem x hx c (List.mem_of_mem_take hc)
          unfold onPair
          omega)
      have hof : wr.cell? ⟨w.heap.size, d * 4 + 3, none⟩ = some (.bool false) := by
        rw [vi.loadDisk hbx.r0 d hd2 3 (by omega), ← hoff, (hbx.pair.disk d).off]; rfl
      have hlo : (P.puts p (x.copies.take i)).low := mend_low p _ _ _ HLOW.out
      obtain ⟨W0, hW0⟩ : ∃ W0, wr.drew = W0 := ⟨_, rfl⟩
      have HB0 : RowKit.Hid (RwBox R0 w w.heap.size g cap nc vi x p (P.puts p (x.copies.take i)) W0) := by rw [← hW0]; exact Lib.hid (hbx.agrees (Agrees.refl _ _).drew)
      have HPT : RowKit.Hid (∀ W', Agrees All W0 W' → Calls Try.prog 21 #[.agg vi.cells, .int .i64 d, .int .i64 at', .agg (pageCells p)] W' fun e w' => ∃ v' : PV, e = .returned (.tuple #[.agg v'.cells, .int .i64 0]) ∧ RowKit.Hid (PairAt (fun k => rwR R0 w.heap.size W0.heap.size k ∨ W'.heap.size ≤ k) w' v' (P.puts p (x.copies.take (i + 1))) ∧ Agrees All W' w')) := by
        refine Lib.hid fun W' g' => ?_
        have h := rput_calls _ vi (P.puts p (x.copies.take i)) d hd2 at' p hp (by unfold in64; omega) W' (HB0.out.pair.both.agrees g' fun _ _ => trivial) (HB0.out.pair.small hlo)
        rw [← hps.1, ← hps.2] at h
        exact h
      have hc0e : (0 : Nat) + i * 2 + 0 * 1 = i * 2 + 0 := by omega
      have hc1e : (0 : Nat) + i * 2 + 1 * 1 = i * 2 + 1 := by omega
      have HC0 := Lib.hid (show W0.cell? ⟨g, 0 + i * 2 + 0 * 1, none⟩ = some (.int .i64 (d : Int)) by rw [hc0e, HB0.out.gc i hlt 0 (by omega), hcc]; rfl)
      have HC1 := Lib.hid (show W0.cell? ⟨g, 0 + i * 2 + 1 * 1, none⟩ = some (.int .i64 at') by rw [hc1e, HB0.out.gc i hlt 1 (by omega), hcc]; rfl)
      have HSZ0 := Lib.hid (show w.heap.size + 4 ≤ W0.heap.size by have h1 := HB0.out.gl; have h2 := HB0.out.gn; omega)
      clear hc0e hc1e
      clear hcell hmem hcc hsuc hps hoff hlo hbx hdk h0a h1a
      go_wp2_with fail
      clear k0 hof
      have hpr := HB0.out.r0
      have hgr := HB0.out.r2
      have hgl := HB0.out.gl
      have hc0 := HC0.out
      have hc1 := HC1.out
      refine wp_region_plan (by kernel_rfl) ?hok (by kernel_rfl) (vRw g cap nc i d vi at' p) (PutW 12 13 14 16 17 (rwR R0 w.heap.size W0.heap.size) W0 0 (P.puts p (x.copies.take (i + 1)))) ?h0 (fun m hm => ?steps) ?hend
      case hok => kernel_rfl
      case h0 =>
        intro vals
        rw [hW0]
        exact ⟨Agrees.refl _ _, (fun h => by cases h), (fun h => by cases h), (fun h => by cases h), (fun h => by cases h)⟩
      case steps =>
        generalize hRR : rwR R0 w.heap.size W0.heap.size = R1 at *
        have hR : ∀ k, R1 k → k < W0.heap.size := by rw [← hRR]; exact fun k h => h.2
        clear hRR
        generalize w.heap.size + 1 + 1 = gb at *
        generalize w.heap.size = pb at *
        have hm' : m < 19 := hm
        match m, hm' with
        | 0, _ =>
          refine steps_of rfl ?_
          intro L aq wq hL hd st wi
          have o3 := st.outside (t := 3) rfl (v := .pointer (some ⟨pb, 0, none⟩)) rfl
          exact opTo_val (v := .agg vi.cells) rfl (ex_load rfl isAgg_pair pb 0 (eval_tmp o3) vi.cells rfl (vi.load ((wi.ag.block _ (Array.getElem?_eq_some_iff.1 hpr).1 trivial).trans hpr))) ⟨(fun h => by cases h), rfl, wi.other (by decide) (by decide) (by decide) (by decide) (by decide) _⟩
        | 1, _ =>
          refine steps_of rfl ?_
          intro L aq wq hL hd st wi
          have o8 := st.outside (t := 8) rfl (v := .slice (some ⟨g, 0, none⟩) nc cap) rfl
          exact opTo_val (v := .slice (some ⟨g, 0, none⟩) nc cap) rfl (ex_move (.inl rfl) (eval_tmp o8)) ⟨(fun h => by cases h), rfl, wi.other (by decide) (by decide) (by decide) (by decide) (by decide) _⟩
        | 2, _ =>
          refine steps_of rfl ?_
          intro L aq wq hL hd st wi
          have o9 := st.outside (t := 9) rfl (v := .int .i64 (i : Int)) rfl
          exact opTo_val (v := .int .i64 (i : Int)) rfl (ex_move (.inl rfl) (eval_tmp o9)) ⟨(fun h => by cases h), rfl, wi.other (by decide) (by decide) (by decide) (by decide) (by decide) _⟩
        | 3, _ =>
          refine steps_of rfl ?_
          intro L aq wq hL hd st wi
          obtain ⟨u1, e1, V1⟩ := st.val 1 _ _ rfl rfl (hd ⟨1, .data⟩ (by simp) rfl)
          obtain rfl : .slice (some ⟨g, 0, none⟩) nc cap = u1 := V1.symm
          obtain ⟨u2, e2, V2⟩ := st.val 2 _ _ rfl rfl (hd ⟨2, .data⟩ (by simp) rfl)
          obtain rfl : .int .i64 (i : Int) = u2 := V2.symm
          exact opTo_val (v := .pointer (some ⟨g, 0 + i * 2, none⟩)) rfl (ex_idx rfl Try.underlying52 isAgg_two.2 g 0 nc cap i (eval_tmp e1) (eval_tmp e2) hlt) ⟨(fun h => by cases h), rfl, wi.other (by decide) (by decide) (by decide) (by decide) (by decide) _⟩
        | 4, _ =>
          refine steps_of rfl ?_
          intro L aq wq hL hd st wi
          obtain ⟨u3, e3, V3⟩ := st.val 3 _ _ rfl rfl (hd ⟨3, .data⟩ (by simp) rfl)
          obtain rfl : .pointer (some ⟨g, 0 + i * 2, none⟩) = u3 := V3.symm
          exact opTo_val (v := .pointer (some ⟨g, 0 + i * 2 + 0 * 1, none⟩)) rfl (ex_idxArr rfl Try.underlying55 oneInt.2 g (0 + i * 2) 0 (eval_tmp e3) rfl (by omega)) ⟨(fun h => by cases h), rfl, wi.other (by decide) (by decide) (by decide) (by decide) (by decide) _⟩
        | 5, _ =>
          refine steps_of rfl ?_
          intro L aq wq hL hd st wi
          obtain ⟨u4, e4, V4⟩ := st.val 4 _ _ rfl rfl (hd ⟨4, .data⟩ (by simp) rfl)
          obtain rfl : .pointer (some ⟨g, 0 + i * 2 + 0 * 1, none⟩) = u4 := V4.symm
          exact opTo_val (v := .int .i64 (d : Int)) rfl (ex_load1 rfl oneInt (eval_tmp e4) ((wi.ag.cell (p := ⟨g, 0 + i * 2 + 0 * 1, none⟩) hgl trivial).trans hc0)) ⟨(fun h => by cases h), rfl, wi.other (by decide) (by decide) (by decide) (by decide) (by decide) _⟩
        | 6, _ =>
          refine steps_of rfl ?_
          intro L aq wq hL hd st wi
          have o8 := st.outside (t := 8) rfl (v := .slice (some ⟨g, 0, none⟩) nc cap) rfl
          exact opTo_val (v := .slice (some ⟨g, 0, none⟩) nc cap) rfl (ex_move (.inl rfl) (eval_tmp o8)) ⟨(fun h => by cases h), rfl, wi.other (by decide) (by decide) (by decide) (by decide) (by decide) _⟩
        | 7, _ =>
          refine steps_of rfl ?_
          intro L aq wq hL hd st wi
          have o9 := st.outside (t := 9) rfl (v := .int .i64 (i : Int)) rfl
          exact opTo_val (v := .int .i64 (i : Int)) rfl (ex_move (.inl rfl) (eval_tmp o9)) ⟨(fun h => by cases h), rfl, wi.other (by decide) (by decide) (by decide) (by decide) (by decide) _⟩
        | 8, _ =>
          refine steps_of rfl ?_
          intro L aq wq hL hd st wi
          obtain ⟨u6, e6, V6⟩ := st.val 6 _ _ rfl rfl (hd ⟨6, .data⟩ (by simp) rfl)
          obtain rfl : .slice (some ⟨g, 0, none⟩) nc cap = u6 := V6.symm
          obtain ⟨u7, e7, V7⟩ := st.val 7 _ _ rfl rfl (hd ⟨7, .data⟩ (by simp) rfl)
          obtain rfl : .int .i64 (i : Int) = u7 := V7.symm
          exact opTo_val (v := .pointer (some ⟨g, 0 + i * 2, none⟩)) rfl (ex_idx rfl Try.underlying52 isAgg_two.2 g 0 nc cap i (eval_tmp e6) (eval_tmp e7) hlt) ⟨(fun h => by cases h), rfl, wi.other (by decide) (by decide) (by decide) (by decide) (by decide) _⟩
        | 9, _ =>
          refine steps_of rfl ?_
          intro L aq wq hL hd st wi
          obtain ⟨u8, e8, V8⟩ := st.val 8 _ _ rfl rfl (hd ⟨8, .data⟩ (by simp) rfl)
          obtain rfl : .pointer (some ⟨g, 0 + i * 2, none⟩) = u8 := V8.symm
          exact opTo_val (v := .pointer (some ⟨g, 0 + i * 2 + 1 * 1, none⟩)) rfl (ex_idxArr rfl Try.underlying55 oneInt.2 g (0 + i * 2) 1 (eval_tmp e8) rfl (by omega)) ⟨(fun h => by cases h), rfl, wi.other (by decide) (by decide) (by decide) (by decide) (by decide) _⟩
        | 10, _ =>
          refine steps_of rfl ?_
          intro L aq wq hL hd st wi
          obtain ⟨u9, e9, V9⟩ := st.val 9 _ _ rfl rfl (hd ⟨9, .data⟩ (by simp) rfl)
          obtain rfl : .pointer (some ⟨g, 0 + i * 2 + 1 * 1, none⟩) = u9 := V9.symm
          exact opTo_val (v := .int .i64 at') rfl (ex_load1 rfl oneInt (eval_tmp e9) ((wi.ag.cell (p := ⟨g, 0 + i * 2 + 1 * 1, none⟩) hgl trivial).trans hc1)) ⟨(fun h => by cases h), rfl, wi.other (by decide) (by decide) (by decide) (by decide) (by decide) _⟩
        | 11, _ =>
          refine steps_of rfl ?_
          intro L aq wq hL hd st wi
          have o5 := st.outside (t := 5) rfl (v := .pointer (some ⟨gb, 0, none⟩)) rfl
          exact opTo_val (v := .agg (pageCells p)) rfl (ex_load rfl isAgg_page gb 0 (eval_tmp o5) (pageCells p) (by rw [pageCells_size]; exact hp) (fun j _ => by rw [Nat.zero_add]; exact cell_of_row _ _ _ _ _ _ ((wi.ag.block _ (Array.getElem?_eq_some_iff.1 hgr).1 trivial).trans hgr))) ⟨(fun h => by cases h), rfl, wi.other (by decide) (by decide) (by decide) (by decide) (by decide) _⟩
        | 12, _ =>
          refine steps_of rfl ?_
          intro L aq wq hL hd st wi
          obtain ⟨u0, e0, V0⟩ := st.val 0 _ _ rfl rfl (hd ⟨0, .data⟩ (by simp) rfl)
          obtain rfl : .agg vi.cells = u0 := V0.symm
          obtain ⟨u5, e5, V5⟩ := st.val 5 _ _ rfl rfl (hd ⟨5, .data⟩ (by simp) rfl)
          obtain rfl : .int .i64 (d : Int) = u5 := V5.symm
          obtain ⟨u10, e10, V10⟩ := st.val 10 _ _ rfl rfl (hd ⟨10, .data⟩ (by simp) rfl)
          obtain rfl : .int .i64 at' = u10 := V10.symm
          obtain ⟨u11, e11, V11⟩ := st.val 11 _ _ rfl rfl (hd ⟨11, .data⟩ (by simp) rfl)
          obtain rfl : .agg (pageCells p) = u11 := V11.symm
          refine opTo_call (w' := wq) (f := 21) (args := #[.agg vi.cells, .int .i64 d, .int .i64 at', .agg (pageCells p)]) rfl (by simp [go_sem, Act.eval, e0, e5, e10, e11]) ((HPT.out wq wi.ag).mono ?_)
          rintro e w' ⟨q, rfl, hh⟩
          exact ⟨_, rfl, (fun h => by cases h), ⟨q, rfl⟩, wi.call hR (by decide) (by decide) (by decide) (by decide) hh.out.1 hh.out.2⟩
        | 13, _ =>
          refine steps_of rfl ?_
          intro L aq wq hL hd st wi
          obtain ⟨u12, e12, V12⟩ := st.val 12 _ _ rfl rfl (hd ⟨12, .data⟩ (by simp) rfl)
          have hk := wi.wr (hd ⟨12, .data⟩ (by simp) rfl)
          rw [show slotV _ aq 12 = u12 from slotV_val rfl rfl e12] at hk
          exact opTo_val (v := u12) rfl (ex_move (.inl rfl) (eval_tmp e12)) ⟨(fun h => by cases h), V12, wi.move (by decide) (by decide) (by decide) (by decide) hk⟩
        | 14, _ =>
          refine steps_of rfl ?_
          intro L aq wq hL hd st wi
          obtain ⟨u13, e13, V13⟩ := st.val 13 _ _ rfl rfl (hd ⟨13, .data⟩ (by simp) rfl)
          have hn17 : L 17 = false := by
            cases h : L 17
            · rfl
            · have := st.closed 17 _ rfl h ⟨14, .data⟩ (by simp) rfl
              rw [hL] at this; cases this
          have hk := wi.mv (hd ⟨13, .data⟩ (by simp) rfl)
          rw [show slotV _ aq 13 = u13 from slotV_val rfl rfl e13] at hk
          obtain ⟨q, rfl, hq⟩ := hk
          exact opTo_val (v := .agg q.cells) rfl (by simp [go_sem, Act.eval, e13]) ⟨(fun h => by cases h), ⟨q, rfl⟩, wi.take (by decide) (by decide) (by decide) (by decide) hq hn17⟩
        | 15, _ =>
          refine steps_of rfl ?_
          intro L aq wq hL hd st wi
          obtain ⟨u13, e13, V13⟩ := st.val 13 _ _ rfl rfl (hd ⟨13, .data⟩ (by simp) rfl)
          obtain ⟨q, rfl⟩ := V13
          exact opTo_val (v := .int .i64 0) rfl (by simp [go_sem, Act.eval, e13]) ⟨(fun h => by cases h), rfl, wi.other (by decide) (by decide) (by decide) (by decide) (by decide) _⟩
        | 16, _ =>
          refine steps_of rfl ?_
          intro L aq wq hL hd st wi
          have hn17 : L 17 = false := by
            cases h : L 17
            · rfl
            · have := st.closed 17 _ rfl h ⟨16, .data⟩ (by simp) rfl
              rw [hL] at this; cases this
          exact opTo_val (v := .pointer (some ⟨wq.heap.size, 0, none⟩)) rfl (ex_alloc rfl (.agg PV.zero.cells) zero_pair) ⟨(fun h => by cases h), ⟨_, rfl⟩, wi.box (by decide) (by decide) (by decide) (by decide) hn17⟩
        | 17, _ =>
          refine steps_of rfl ?_
          intro L aq wq hL hd st wi
          obtain ⟨u16, e16, V16⟩ := st.val 16 _ _ rfl rfl (hd ⟨16, .data⟩ (by simp) rfl)
          obtain ⟨u14, e14, V14⟩ := st.val 14 _ _ rfl rfl (hd ⟨14, .data⟩ (by simp) rfl)
          obtain ⟨b, hb1, hb2, hb3⟩ := wi.bx (hd ⟨16, .data⟩ (by simp) rfl)
          have hb1' := hb1
          rw [show slotV _ aq 16 = u16 from slotV_val rfl rfl e16] at hb1
          rw [hL, if_neg Bool.false_ne_true] at hb3
          subst hb1
          obtain ⟨q, hq1, hq2⟩ := wi.ex (hd ⟨14, .data⟩ (by simp) rfl)
          have hq1' := hq1
          rw [show slotV _ aq 14 = u14 from slotV_val rfl rfl e14] at hq1
          subst hq1
          exact opTo_skip rfl (ex_storeAll rfl isAgg_pair.2 b (eval_tmp e16) q.cells PV.zero.cells (eval_tmp e14) rfl hb3 rfl (PV.one _)) ⟨fun _ => rfl, rfl, wi.fill (by decide) (by decide) (by decide) (by decide) (hd ⟨16, .data⟩ (by simp) rfl) hb1' hb3 hq1'⟩
        | 18, _ =>
          refine steps_of rfl ?_
          intro L aq wq hL hd st wi
          obtain ⟨u15, e15, V15⟩ := st.val 15 _ _ rfl rfl (hd ⟨15, .data⟩ (by simp) rfl)
          obtain rfl : .int .i64 0 = u15 := V15.symm
          exact opTo_val (v := .int .i64 0) rfl (ex_move (.inr rfl) (eval_tmp e15)) ⟨(fun h => by cases h), rfl, wi.other (by decide) (by decide) (by decide) (by decide) (by decide) _⟩
        | (m + 19), h => omega
      case hend =>
        intro vals W6 hV hW
        have x18 : vals 18 = .int .i64 0 := hV 18 _ _ rfl rfl
        obtain ⟨q, hq1, hq2⟩ := hW.ex rfl
        obtain ⟨nb, hb1, hb2, hb3⟩ := hW.bx rfl
        rw [if_pos (by decide), hq1] at hb3
        simp only [putAll, Act.put, List.setIfInBounds_toArray, List.set_cons_succ, List.set_cons_zero, x18, hb1]
        have HN6 := Lib.hid (show W6.heap[nb]? = some (.cells q.cells 40 (0, 0)) from hb3)
        have hB6 := HB0.out.agrees hW.ag
        have HU0 := Lib.hid hB6.r0
        obtain ⟨W7, hW7⟩ : ∃ W7, W6.setRow w.heap.size q.cells = W7 := ⟨_, rfl⟩
        have hA7 : Agrees (fun b => b ≠ w.heap.size) W6 W7 := by rw [← hW7]; exact (Agrees.refl _ _).setRow (.inl (fun h => h rfl)) _
        have k7 : ∀ {b : Nat} {o : Obj}, b ≠ w.heap.size → W6.heap[b]? = some o → W7.heap[b]? = some o := fun hne hb => (hA7.block _ (Array.getElem?_eq_some_iff.1 hb).1 hne).trans hb
        have HNB : RowKit.Hid (RwBox R0 w w.heap.size g cap nc q x p (P.puts p (x.copies.take (i + 1))) W7) := by
          have hgn := hB6.gn
          refine Lib.hid ⟨by rw [← hW7]; exact hB6.ag.setRow (.inr (Nat.le_refl _)) _, by rw [← hW7]; exact setRow_heap _ _ _ _ _ _ HU0.out, k7 (by omega) hB6.r2, k7 (by omega) hB6.r3, Nat.lt_of_lt_of_le hB6.gl hA7.size, fun i hi j hj => (hA7.cell (p := ⟨g, i * 2 + j, none⟩) hB6.gl (by show g ≠ w.heap.size; omega)).trans (hB6.gc i hi j hj), hgn, ?_⟩
          refine (hq2.agrees hA7 fun k hk e => ?_).mono fun k hk => ?_
          · have h4 := HSZ0.out
            rcases hk.1 with h | h
            · rcases h.1 with h | h <;> omega
            · omega
          · have h4 := HSZ0.out
            rcases hk.1 with h | h
            · exact h.1
            · exact .inr (by omega)
        clear hW hV hb3 hq1 hq2 hb1 hb2 x18 hpr hgr hgl hc0 hc1 HPT HC0 HC1 HB0 HSZ0 hB6 hA7 k7 hW0
        go_wp2_with (first
          | (refine wpList_val rfl (ex_load (ty := 40) rfl isAgg_pair nb 0 rfl q.cells rfl (PV.load _ HN6.out)) ?_)
          | (refine wpList_unit rfl (ex_storeAll (ty := 40) rfl isAgg_pair.2 w.heap.size rfl q.cells vi.cells rfl rfl HU0.out rfl (PV.one _)) ?_; rw [hW7]))
        exact ⟨⟨i + 1, by omega, by simp, Lib.hid ⟨q, HNB.out⟩⟩, by simp [intOf]; omega⟩
    · obtain rfl : i = nc := by omega
      have HROW := Lib.hid (setRow_heap _ _ _ vi.cells _ _ HBX.out.r3)
      have HAF := Lib.hid (HBX.out.ag.setRow (p := w.heap.size + 1 + 1 + 1) (.inr (by omega)) vi.cells)
      have HGF := Lib.hid ((Agrees.refl (fun b => b ≠ w.heap.size + 1 + 1 + 1) wr).setRow (.inl (fun h => h rfl)) vi.cells)
      have HALL : RowKit.Hid (P.puts p (x.copies.take i) = P.puts p x.copies) := Lib.hid (by rw [List.take_of_length_le (by rw [HNCD.out]; exact Nat.le_refl _)])
      go_wp2_with (first
        | (refine wpList_val rfl (ex_load (ty := 40) rfl isAgg_pair w.heap.size 0 rfl vi.cells rfl (PV.load _ HBX.out.r0)) ?_)
        | (refine wpList_unit rfl (ex_storeAll (ty := 40) rfl isAgg_pair.2 (w.heap.size + 1 + 1 + 1) rfl vi.cells PV.zero.cells rfl rfl HBX.out.r3 rfl (PV.one _)) ?_))
      refine bodyPost_ret (results_a1t1' rfl _ (b := w.heap.size + 1 + 1 + 1) rfl isAgg_pair (vs := vi.cells) rfl (PV.load _ HROW.out) rfl) rfl ⟨vi, rfl, Lib.hid ⟨?_, HAF.out⟩⟩
      rw [← HALL.out]
      exact (HBX.out.pair.agrees HGF.out fun b hb => by omega).mono fun b hb => by
        rcases hb with h | h
        · exact .inl h.1
        · exact .inr (by omega)
end Suture
/-
  A PAGE PUT ON ALL COPIES, ALL BUT ONE SPOILT, in plain Lean.
  Conditions: none.
-/
namespace Suture
open Go Go.RowKit Go.Proofs

theorem fresh_may : (fresh 32).may = true := by decide +kernel
theorem fit_fresh : Fit 0 freshP :=
  ⟨rfl, by show (-1 : Int) < 0; omega, fun d _ => by unfold Pair.disk; split <;> rfl, fun d _ _ => by unfold Pair.disk; split <;> exact ⟨fresh_may, Nat.le_refl 0⟩⟩
theorem fresh_on (d : Nat) : (freshP.disk d).off = false := by unfold Pair.disk; split <;> rfl
/-- the pair with the page on all copies, and the other one on all but one -/
def spoilt (x : Ptr) (page other : List (BitVec 8)) (kc : Int × Int) : Pair := (freshP.puts page x.copies).puts other (x.copies.filter (· != kc))

theorem copies_len (x : Ptr) : x.copies.length ≤ 4 := by unfold Ptr.copies; split <;> simp
theorem puts_fresh {x : Ptr} (hp : ∀ c ∈ x.copies, onPair c ∧ 0 ≤ c.2 ∧ c.2 < 32) (page : List (BitVec 8)) :
    freshP.putsE page x.copies = 0 ∧ Fit 4 (freshP.puts page x.copies) ∧ (∀ d, d < 2 → ((freshP.puts page x.copies).disk d).off = false) ∧ ∀ c ∈ x.copies, ((freshP.puts page x.copies).disk c.1.toNat).read c.2 = (page, 0) := by
  have h4 := copies_len x
  obtain ⟨m1, m2⟩ := Fit.mend page x.copies freshP 0 0 fit_fresh (by omega) (fun c hc => ⟨(hp c hc).1, fresh_on _, (hp c hc).2⟩)
  obtain ⟨r1, _, _⟩ := mend_read page x.copies freshP 0 (fun c hc => (hp c hc).1) m1
  exact ⟨m1, m2.mono (by omega), fun d hd => by rw [← fresh_on d]; exact mend_off page hd _ _ _ (fun c hc => (hp c hc).1), fun c hc => r1 c (hp c hc).1 hc⟩
theorem spoilt_kept {x : Ptr} (hp : ∀ c ∈ x.copies, onPair c ∧ 0 ≤ c.2 ∧ c.2 < 32) (hr : x.right 32 = true) (page other : List (BitVec 8)) {kc : Int × Int} (hk : kc ∈ x.copies) :
    (freshP.puts page x.copies).putsE other (x.copies.filter (· != kc)) = 0 ∧ Kept 8 (spoilt x page other kc) x page other ∧ (∀ d, d < 2 → ((spoilt x page other kc).disk d).off = false) ∧ ((spoilt x page other kc).disk kc.1.toNat).read kc.2 = (page, 0) := by
  obtain ⟨_, f1, o1, r1⟩ := puts_fresh hp page
  have h4 := copies_len x
  have hfl : (x.copies.filter (· != kc)).length ≤ 4 := Nat.le_trans (List.length_filter_le _ _) h4
  have hsub : ∀ c ∈ x.copies.filter (· != kc), c ∈ x.copies := fun c hc => (List.mem_filter.1 hc).1
  obtain ⟨m1, m2⟩ := Fit.mend other (x.copies.filter (· != kc)) (freshP.puts page x.copies) 4 0 f1 (by omega) (fun c hc => ⟨(hp c (hsub c hc)).1, o1 _ (onPair_lt (hp c (hsub c hc)).1), (hp c (hsub c hc)).2⟩)
  obtain ⟨q1, q2, _⟩ := mend_read other (x.copies.filter (· != kc)) (freshP.puts page x.copies) 0 (fun c hc => (hp c (hsub c hc)).1) m1
  have hoff : ∀ d, d < 2 → ((spoilt x page other kc).disk d).off = false := fun d hd => by
    rw [← o1 d hd]; exact mend_off other hd _ _ _ (fun c hc => (hp c (hsub c hc)).1)
  have hkr : ((spoilt x page other kc).disk kc.1.toNat).read kc.2 = (page, 0) := (q2 kc (hp kc hk).1 (fun h => by simp at h)).trans (r1 kc hk)
  have hfit : Fit 8 (spoilt x page other kc) := m2.mono (by omega)
  refine ⟨m1, ⟨hfit, ?_, fun c hc => ?_, ⟨kc, List.mem_filter.2 ⟨hk, by unfold Pair.lives; rw [hoff _ (onPair_lt (hp kc hk).1)]; rfl⟩, hkr⟩, fun c hc => (hp c (List.mem_filter.1 hc).1).2⟩, hoff, hkr⟩
  · have o0 : (spoilt x page other kc).d0.off = false := hoff 0 (by omega)
    unfold Pair.asked
    rw [hfit.down, hfit.total, hr, o0]
    simp
  · have hcc := (List.mem_filter.1 hc).1
    by_cases e : c = kc
    · subst e; exact .inl hkr
    · exact .inr (q1 c (hp c hcc).1 (List.mem_filter.2 ⟨hcc, by simpa using e⟩))
/-- a disk taken off, its cache dropped -/
def Pair.drop (P : Pair) (j : Nat) : Pair := P.set j { P.disk j with off := true, cache := [] }
theorem drop_disk (P : Pair) {j d : Nat} (hj : j < 2) (hd : d < 2) : (P.drop j).disk d = if d = j then { P.disk j with off := true, cache := [] } else P.disk d := by
  have h1 : j = 0 ∨ j = 1 := by omega
  have h2 : d = 0 ∨ d = 1 := by omega
  rcases h1 with rfl | rfl <;> rcases h2 with rfl | rfl <;> rfl
theorem drop_kept {n : Nat} {P : Pair} {x : Ptr} {page other : List (BitVec 8)} {kc : Int × Int} (h : Kept n P x page other) (hon : ∀ d, d < 2 → (P.disk d).off = false) (hk : kc ∈ x.copies) (hkp : onPair kc) (hr : (P.disk kc.1.toNat).read kc.2 = (page, 0)) {j : Nat} (hj : j < 2) (hne : kc.1.toNat ≠ j) :
    Kept n (P.drop j) x page other := by
  have hfit : Fit n (P.drop j) := by
    refine ⟨?_, ?_, fun d hd => ?_, fun d hd ho => ?_⟩
    · have := h.fit.down
      unfold Pair.drop Pair.set
      split <;> exact this
    · have := h.fit.fuse
      unfold Pair.drop Pair.set
      split <;> exact this
    · rw [drop_disk P hj hd]
      split
      · exact h.fit.size j hj
      · exact h.fit.size d hd
    · rw [drop_disk P hj hd] at ho ⊢
      split at ho
      · cases ho
      · rename_i e
        rw [if_neg e]
        exact h.fit.disk d hd ho
  have hfound : ∀ c ∈ (P.drop j).found x, c ∈ x.copies ∧ c.1.toNat ≠ j ∧ c ∈ P.found x := fun c hc => by
    have hcc := (List.mem_filter.1 hc).1
    have hl := (List.mem_filter.1 hc).2
    have hc2 := onPair_lt (found_on hc)
    have hcj : c.1.toNat ≠ j := fun e => by
      unfold Pair.lives at hl
      rw [drop_disk P hj hc2, if_pos e] at hl
      cases hl
    exact ⟨hcc, hcj, List.mem_filter.2 ⟨hcc, by unfold Pair.lives; rw [hon _ hc2]; rfl⟩⟩
  have hk2 := onPair_lt hkp
  have hkf : kc ∈ (P.drop j).found x := List.mem_filter.2 ⟨hk, by unfold Pair.lives; rw [drop_disk P hj hk2, if_neg hne, hon _ hk2]; rfl⟩
  refine ⟨hfit, ?_, fun c hc => ?_, ⟨kc, hkf, by rw [drop_disk P hj hk2, if_neg hne]; exact hr⟩, fun c hc => h.place c (hfound c hc).2.2⟩
  · obtain ⟨_, hrt⟩ := asked_right h.asked
    rw [h.fit.total] at hrt
    have hk3 : ((P.drop j).disk kc.1.toNat).off = false := by rw [drop_disk P hj hk2, if_neg hne]; exact hon _ hk2
    unfold Pair.asked
    rw [hfit.down, hfit.total, hrt]
    have h01 : kc.1.toNat = 0 ∨ kc.1.toNat = 1 := by omega
    rcases h01 with e | e
    · rw [e] at hk3
      have h3 : (P.drop j).d0.off = false := hk3
      rw [h3]; simp
    · rw [e] at hk3
      have h3 : (P.drop j).d1.off = false := hk3
      rw [h3]; simp
  · obtain ⟨hcc, hcj, hcf⟩ := hfound c hc
    rw [drop_disk P hj (onPair_lt (found_on hc)), if_neg hcj]
    exact h.reads c hcf

/-- what FetchStays answers by: a reading, and a scan of what it hands back -/
theorem stays {n : Nat} {P : Pair} {x : Ptr} {page other : List (BitVec 8)} (h : Kept n P x page other) (hf : x.fits page = true) (ho : x.fits other = false) (hn : n + 8 < 2000) :
    (P.look x false).2.2.2 = 0 ∧ (P.look x false).1 = page ∧ (P.look x false).2.2.1.b + 1 = (P.look x false).2.2.1.r ∧ ((P.look x false).2.1.look x true).2.2.2 = 0 ∧ ((P.look x false).2.1.look x true).1 = page ∧ (P.look x false).2.2.1.r ≤ ((P.look x false).2.1.look x true).2.2.1.r := by
  obtain ⟨a1, a2, a3, a4, a5⟩ := h.look hf ho (by omega) false
  obtain ⟨b1, b2, _, b4, b5⟩ := a3.look hf ho (by omega) true
  refine ⟨a1, a2, ((mends P x).f1 a1).2.1.symm, b1, b2, ?_⟩
  rw [a5, b5, seen_all, a4]
  unfold Pair.seen
  rw [List.length_take]
  omega
end Suture
/-
  THE POINTERS of FetchStays, in plain Lean.
  Conditions: none.
-/
namespace Suture
open Go Go.RowKit Go.Proofs

/-- a pointer of a page at two places -/
def xS (chain : Bool) (a b : Int) (page : List (BitVec 8)) : Ptr := ptrOf (if chain then 3 else 1) a b 1 page
theorem w16_small {a : Int} (h : 0 ≤ a) (h2 : a < 65536) : w16 a = a := by
  unfold w16 IntKind.wrap
  simp [IntKind.signed, IntKind.bits]
  omega
theorem xS_eq {chain : Bool} {a b : Int} {page : List (BitVec 8)} (ha : 4 ≤ a ∧ a < 18) (hb : 18 ≤ b ∧ b < 32) : xS chain a b page = if chain then ⟨3, a, 0, 1, sum page⟩ else ⟨1, a, b, 1, sum page⟩ := by
  unfold xS ptrOf
  rw [w16_small (by omega) (by omega), w16_small (a := b) (by omega) (by omega)]
  cases chain <;> rfl
theorem xS_copies {chain : Bool} {a b : Int} {page : List (BitVec 8)} (ha : 4 ≤ a ∧ a < 18) (hb : 18 ≤ b ∧ b < 32) : (xS chain a b page).copies = if chain then [(0, a), (1, a)] else [(0, a), (0, b), (1, a), (1, b)] := by
  rw [xS_eq ha hb]
  cases chain <;> rfl
theorem xS_facts {chain : Bool} {a b : Int} {page : List (BitVec 8)} (ha : 4 ≤ a ∧ a < 18) (hb : 18 ≤ b ∧ b < 32) :
    (xS chain a b page).ok ∧ (xS chain a b page).right 32 = true ∧ (xS chain a b page).fits page = true ∧ (∀ c ∈ (xS chain a b page).copies, onPair c ∧ 0 ≤ c.2 ∧ c.2 < 32) ∧ (xS chain a b page).copies.Nodup ∧ (xS chain a b page).kd ≠ 0 := by
  refine ⟨?_, ?_, ?_, ?_, ?_, ?_⟩
  · rw [xS_eq ha hb]
    cases chain <;> simp [Ptr.ok] <;> omega
  · rw [xS_eq ha hb]
    cases chain <;> simp [Ptr.right, Ptr.first, Ptr.addrs, Ptr.isMeta, Ptr.fits1] <;> omega
  · rw [xS_eq ha hb]
    cases chain <;> simp [Ptr.fits]
  · rw [xS_copies ha hb]
    cases chain <;> simp [onPair] <;> omega
  · rw [xS_copies ha hb]
    cases chain <;> simp <;> omega
  · rw [xS_eq ha hb]
    cases chain <;> simp
end Suture
/-
  WHAT FetchStays WALKS THROUGH: its boxes; a pair put to in a region that draws its order, stored in a box of its own (no program).
  Conditions: none beyond the pair's own reading.
-/
namespace Suture
open Go Go.RowKit Go.Proofs

/-- calls at c, moved at m, taken out at x, stored at s into the box bp -/
structure PutX (c m x s bp : Nat) (v0 : PV) (W0 : World) (er : Int) (P' : Pair) (L : Nat → Bool) (vals : Nat → Value) (W : World) : Prop where
  ag : Agrees (fun k => k ≠ bp) W0 W
  wr : L c = true → ∃ q : PV, vals c = .tuple #[.agg q.cells, .int .i64 er] ∧ PairAt (fun k => k ≠ bp) W q P'
  mv : L m = true → ∃ q : PV, vals m = .tuple #[.agg q.cells, .int .i64 er] ∧ PairAt (fun k => k ≠ bp) W q P'
  ex : L x = true → ∃ q : PV, vals x = .agg q.cells ∧ PairAt (fun k => k ≠ bp) W q P'
  bx : W.heap[bp]? = some (.cells (if L s = true then (vals x).cells else v0.cells) 40 (0, 0))
section
variable {c m x s bp : Nat} {v0 : PV} {W0 : World} {er : Int} {P' : Pair} {L : Nat → Bool} {vals : Nat → Value} {W W' : World}
theorem PutX.other (h : PutX c m x s bp v0 W0 er P' L vals W) {i : Nat} (hc : c ≠ i) (hm : m ≠ i) (hx : x ≠ i) (hs : s ≠ i) (v : Value) : PutX c m x s bp v0 W0 er P' (setL L i) (updV vals i v) W := by
  refine ⟨h.ag, ?_, ?_, ?_, ?_⟩
  · rw [setL_at hc.symm, updV_at hc.symm]; exact h.wr
  · rw [setL_at hm.symm, updV_at hm.symm]; exact h.mv
  · rw [setL_at hx.symm, updV_at hx.symm]; exact h.ex
  · rw [setL_at hs.symm, updV_at hx.symm]; exact h.bx
theorem PutX.agrees (h : PutX c m x s bp v0 W0 er P' L vals W) (g : Agrees All W W') : PutX c m x s bp v0 W0 er P' L vals W' :=
  ⟨h.ag.trans g.weak, fun e => by obtain ⟨q, h1, h2⟩ := h.wr e; exact ⟨q, h1, h2.agrees g fun _ _ => trivial⟩, fun e => by obtain ⟨q, h1, h2⟩ := h.mv e; exact ⟨q, h1, h2.agrees g fun _ _ => trivial⟩,
    fun e => by obtain ⟨q, h1, h2⟩ := h.ex e; exact ⟨q, h1, h2.agrees g fun _ _ => trivial⟩, (g.block _ (Array.getElem?_eq_some_iff.1 h.bx).1 trivial).trans h.bx⟩
theorem PutX.call (h : PutX c m x s bp v0 W0 er P' L vals W) (hm : m ≠ c) (hx : x ≠ c) (hs : s ≠ c) {q : PV} (hq : PairAt (fun k => k ≠ bp ∨ W.heap.size ≤ k) W' q P') (g : Agrees All W W') :
    PutX c m x s bp v0 W0 er P' (setL L c) (updV vals c (.tuple #[.agg q.cells, .int .i64 er])) W' := by
  have h' := h.agrees g
  refine ⟨h'.ag, ?_, ?_, ?_, ?_⟩
  · refine fun _ => ⟨q, updV_same, hq.mono fun k hk => ?_⟩
    have hlt := (Array.getElem?_eq_some_iff.1 h.bx).1
    rcases hk with hk | hk
    · exact hk
    · omega
  · rw [setL_at hm.symm, updV_at hm.symm]; exact h'.mv
  · rw [setL_at hx.symm, updV_at hx.symm]; exact h'.ex
  · rw [setL_at hs.symm, updV_at hx.symm]; exact h'.bx
theorem PutX.move (h : PutX c m x s bp v0 W0 er P' L vals W) (hc : c ≠ m) (hx : x ≠ m) (hs : s ≠ m) {u : Value} (hq : ∃ q : PV, u = .tuple #[.agg q.cells, .int .i64 er] ∧ PairAt (fun k => k ≠ bp) W q P') :
    PutX c m x s bp v0 W0 er P' (setL L m) (updV vals m u) W := by
  refine ⟨h.ag, ?_, ?_, ?_, ?_⟩
  · rw [setL_at hc.symm, updV_at hc.symm]; exact h.wr
  · intro _; rw [updV_same]; exact hq
  · rw [setL_at hx.symm, updV_at hx.symm]; exact h.ex
  · rw [setL_at hs.symm, updV_at hx.symm]; exact h.bx
theorem PutX.take (h : PutX c m x s bp v0 W0 er P' L vals W) (hc : c ≠ x) (hm : m ≠ x) (hs : s ≠ x) {q : PV} (hq : PairAt (fun k => k ≠ bp) W q P') (hL : L s = false) :
    PutX c m x s bp v0 W0 er P' (setL L x) (updV vals x (.agg q.cells)) W := by
  refine ⟨h.ag, ?_, ?_, ?_, ?_⟩
  · rw [setL_at hc.symm, updV_at hc.symm]; exact h.wr
  · rw [setL_at hm.symm, updV_at hm.symm]; exact h.mv
  · exact fun _ => ⟨q, updV_same, hq⟩
  · have e := h.bx
    rw [hL] at e
    rw [setL_at hs.symm, hL]
    exact e
theorem PutX.fill (h : PutX c m x s bp v0 W0 er P' L vals W) (hc : c ≠ s) (hm : m ≠ s) (hx : x ≠ s) {q : PV} (hq : vals x = .agg q.cells) :
    PutX c m x s bp v0 W0 er P' (setL L s) (updV vals s undef) (W.setRow bp q.cells) := by
  have g : Agrees (fun j => j ≠ bp) W (W.setRow bp q.cells) := (Agrees.refl _ _).setRow (.inl fun h => h rfl) _
  have t2 : ∀ {q' : PV}, PairAt (fun k => k ≠ bp) W q' P' → PairAt (fun k => k ≠ bp) (W.setRow bp q.cells) q' P' := fun hp => hp.agrees g fun _ hj => hj
  refine ⟨h.ag.trans g, ?_, ?_, ?_, ?_⟩
  · rw [setL_at hc.symm, updV_at hc.symm]; intro e; obtain ⟨q', h1, h2⟩ := h.wr e; exact ⟨q', h1, t2 h2⟩
  · rw [setL_at hm.symm, updV_at hm.symm]; intro e; obtain ⟨q', h1, h2⟩ := h.mv e; exact ⟨q', h1, t2 h2⟩
  · rw [setL_at hx.symm, updV_at hx.symm]; intro e; obtain ⟨q', h1, h2⟩ := h.ex e; exact ⟨q', h1, t2 h2⟩
  · rw [updV_at hx.symm, setRow_heap _ _ _ _ _ _ h.bx, hq]
    simp [setL, Value.cells]
end

/-- the boxes of the law: both pages, the pair -/
structure StW (w : World) (b7 b8 bp : Nat) (page other : List (BitVec 8)) (v : PV) (P : Pair) (W : World) : Prop where
  ag : Agrees All w W
  r7 : W.heap[b7]? = some (.cells (pageCells page) 32 (0, 0))
  r8 : W.heap[b8]? = some (.cells (pageCells other) 32 (0, 0))
  r15 : W.heap[bp]? = some (.cells v.cells 40 (0, 0))
  ne : b7 ≠ bp ∧ b8 ≠ bp ∧ w.heap.size ≤ bp
  pair : PairAt (fun b => b ≠ bp) W v P
theorem StW.agrees {w : World} {b7 b8 bp : Nat} {page other : List (BitVec 8)} {v : PV} {P : Pair} {W W' : World} (h : StW w b7 b8 bp page other v P W) (a : Agrees All W W') : StW w b7 b8 bp page other v P W' := by
  have k : ∀ {b : Nat} {o : Obj}, W.heap[b]? = some o → W'.heap[b]? = some o := fun hb => (a.block _ (Array.getElem?_eq_some_iff.1 hb).1 trivial).trans hb
  exact ⟨h.ag.trans a, k h.r7, k h.r8, k h.r15, h.ne, h.pair.agrees a fun _ _ => trivial⟩
/-- another pair in the pair's box -/
theorem StW.over {w : World} {b7 b8 bp : Nat} {page other : List (BitVec 8)} {v v' : PV} {P P' : Pair} {W W' : World} (h : StW w b7 b8 bp page other v P W) (a : Agrees (fun b => b ≠ bp) W W') (hr : W'.heap[bp]? = some (.cells v'.cells 40 (0, 0))) (hp : PairAt (fun b => b ≠ bp) W' v' P') : StW w b7 b8 bp page other v' P' W' := by
  have k : ∀ {b : Nat} {o : Obj}, b ≠ bp → W.heap[b]? = some o → W'.heap[b]? = some o := fun hne hb => (a.block _ (Array.getElem?_eq_some_iff.1 hb).1 hne).trans hb
  have h3 := h.ne.2.2
  refine ⟨?_, k h.ne.1 h.r7, k h.ne.2.1 h.r8, hr, h.ne, hp⟩
  exact ((h.ag.weak (R := fun b => b < w.heap.size)).trans' a (fun b hb _ => by omega)).mono fun b hb _ => hb
/-- younger boxes may change -/
theorem StW.young {w : World} {b7 b8 bp : Nat} {page other : List (BitVec 8)} {v : PV} {P : Pair} {W W' : World} (h : StW w b7 b8 bp page other v P W) (a : Agrees (fun b => b < W.heap.size) W W') : StW w b7 b8 bp page other v P W' := by
  have k : ∀ {b : Nat} {o : Obj}, W.heap[b]? = some o → W'.heap[b]? = some o := fun hb => (a.block _ (Array.getElem?_eq_some_iff.1 hb).1 (Array.getElem?_eq_some_iff.1 hb).1).trans hb
  refine ⟨?_, k h.r7, k h.r8, k h.r15, h.ne, (h.pair.both.agrees a fun b hb => hb.2).mono fun b hb => hb.1⟩
  exact ((h.ag.weak (R := fun b => b < w.heap.size)).trans' a (fun b hb _ => Nat.lt_of_lt_of_le hb h.ag.size)).mono fun b hb _ => hb
/-- puts that are a beginning of puts that succeed -/
theorem puts_pre {P : Pair} {p : List (BitVec 8)} {l l1 l2 : List (Int × Int)} (h : P.putsE p l = 0) (e : l = l1 ++ l2) : P.putsE p l1 = 0 := by
  unfold Pair.putsE at *
  rw [e, mend_append] at h
  split at h
  · assumption
  · exact h
theorem puts_low {P : Pair} (h : P.low) (p : List (BitVec 8)) (l : List (Int × Int)) : (P.puts p l).low := mend_low p l P 0 h
end Suture
/-
  FetchStays's LAST PART: a reading, a scan of what it hands back, and what is compared.
  Conditions: none beyond the pair's own reading.
-/
namespace Suture
open Go Go.RowKit Go.Proofs
attribute [local go_sem] Oper.semAt_some

theorem look_low {P : Pair} (h : P.low) (x : Ptr) (all : Bool) : (P.look x all).2.1.low := by
  unfold Pair.look
  split
  · exact h
  · dsimp only
    split
    · exact h
    · split
      · exact mend_low _ _ _ _ h
      · exact mend_low _ _ _ _ h
theorem wrap_tal {z : Int} (h : 0 ≤ z) (h2 : z ≤ 9223372036854775807) : IntKind.i64.wrap z = z := by rw [IntKind.wrap_i64]; omega
theorem wpList_eqlS {P : Program} {m : Nat} {t ty : TypeId} (hK : Keyable P m t) {xs ys : Array Value} (hx : Keyed P m t xs) (hy : Keyed P m t ys) {ops : Array Oper} {rest : List Oper} {o : Oper} {a : Act} {w : World} {Q : Exit → Act → World → Prop} {x y : Operand}
    (hw : Region.wanted o (yielded ops a.tmps) = true) (ho : o.op = .binOp .eql t x y ty) (ex : a.eval x = .agg xs) (ey : a.eval y = .agg ys) (k : ∀ r : Bool, (r = true ↔ xs = ys) → wpList P ops Q rest (a.put o.dst (.bool r)) w) :
    wpList P ops Q (o :: rest) a w := by
  obtain ⟨r, hr, hiff⟩ := ex_eql hK hx hy (w := w) ho ex ey
  exact wpList_val hw hr (k r hiff)
/-- the boxes of the answer -/
structure ERows (W : World) (b7 a c : Nat) (page : List (BitVec 8)) (tr tb tm ur ub um : Int) : Prop where
  r7 : W.heap[b7]? = some (.cells (pageCells page) 32 (0, 0))
  r21 : W.heap[a]? = some (.cells (pageCells page) 32 (0, 0))
  r23 : W.heap[a + 1 + 1]? = some (.cells (Tal.mk tr tb tm).cells 57 (0, 0))
  r25 : W.heap[c]? = some (.cells (pageCells page) 32 (0, 0))
  r27 : W.heap[c + 1 + 1]? = some (.cells (Tal.mk ur ub um).cells 57 (0, 0))
theorem ERows.tals {W : World} {b7 a c : Nat} {page : List (BitVec 8)} {tr tb tm ur ub um : Int} (h : ERows W b7 a c page tr tb tm ur ub um) :
    W.cell? ⟨a + 1 + 1, 0, none⟩ = some (.int .i64 tr) ∧ W.cell? ⟨a + 1 + 1, 1, none⟩ = some (.int .i64 tb) ∧ W.cell? ⟨c + 1 + 1, 0, none⟩ = some (.int .i64 ur) := by
  refine ⟨?_, ?_, ?_⟩
  · rw [cell_of_row _ _ _ _ _ _ h.r23]; rfl
  · rw [cell_of_row _ _ _ _ _ _ h.r23]; rfl
  · rw [cell_of_row _ _ _ _ _ _ h.r27]; rfl

set_option maxHeartbeats 16000000 in
set_option maxRecDepth 100000 in
theorem stays_end : ∀ c, cR (cR (cR (cR (cR (cR (cR (cR (cR (cR (cR (cR (Try.f6.body)))))))))))) = some c → ∀ (Q : Exit → Act → World → Prop) (w W : World) (b7 b8 bp bx : Nat) (x : Ptr) (page other : List (BitVec 8)) (v : PV) (P : Pair) (u : Nat → Value),
    x.ok → page.length = 256 → x.fits page = true → x.fits other = false → StW w b7 b8 bp page other v P W → W.heap[bx]? = some (.cells x.cells 48 (0, 0)) → P.low → Kept 8 P x page other →
    (∀ a' W', a'.defers = [] → a'.tmps[14]? = some (.bool true) → Agrees All w W' → Q .ret a' W') →
    c.wp Try.prog Q { tmps := (u 0 :: u 1 :: u 2 :: u 3 :: u 4 :: u 5 :: u 6 :: (.pointer (some ⟨b7, 0, none⟩) : Value) :: u 8 :: u 9 :: u 10 :: u 11 :: u 12 :: u 13 :: (.bool false : Value) :: (.pointer (some ⟨bp, 0, none⟩) : Value) :: u 16 :: (.pointer (some ⟨bx, 0, none⟩) : Value) :: u 18 :: u 19 :: u 20 :: u 21 :: u 22 :: u 23 :: u 24 :: u 25 :: u 26 :: u 27 :: u 28 :: u 29 :: u 30 :: u 31 :: u 32 :: u 33 :: u 34 :: u 35 :: u 36 :: u 37 :: u 38 :: u 39 :: u 40 :: u 41 :: u 42 :: u 43 :: u 44 :: u 45 :: u 46 :: u 47 :: u 48 :: u 49 :: u 50 :: u 51 :: u 52 :: u 53 :: u 54 :: u 55 :: u 56 :: u 57 :: u 58 :: u 59 :: u 60 :: u 61 :: u 62 :: u 63 :: u 64 :: u 65 :: u 66 :: u 67 :: u 68 :: u 69 :: u 70 :: u 71 :: u 72 :: u 73 :: u 74 :: u 75 :: u 76 :: u 77 :: u 78 :: u 79 :: u 80 :: u 81 :: u 82 :: u 83 :: u 84 :: u 85 :: u 86 :: u 87 :: u 88 :: u 89 :: u 90 :: u 91 :: u 92 :: u 93 :: u 94 :: u 95 :: u 96 :: u 97 :: u 98 :: u 99 :: u 100 :: u 101 :: u 102 :: u 103 :: u 104 :: u 105 :: u 106 :: u 107 :: u 108 :: u 109 :: u 110 :: u 111 :: u 112 :: u 113 :: u 114 :: u 115 :: u 116 :: u 117 :: u 118 :: u 119 :: u 120 :: u 121 :: u 122 :: u 123 :: u 124 :: u 125 :: u 126 :: u 127 :: u 128 :: u 129 :: u 130 :: u 131 :: u 132 :: u 133 :: u 134 :: u 135 :: u 136 :: u 137 :: u 138 :: u 139 :: u 140 :: u 141 :: u 142 :: u 143 :: u 144 :: u 145 :: u 146 :: u 147 :: u 148 :: u 149 :: u 150 :: u 151 :: u 152 :: u 153 :: u 154 :: u 155 :: u 156 :: u 157 :: u 158 :: u 159 :: u 160 :: u 161 :: u 162 :: u 163 :: u 164 :: u 165 :: u 166 :: u 167 :: u 168 :: u 169 :: u 170 :: u 171 :: u 172 :: u 173 :: u 174 :: u 175 :: u 176 :: []).toArray, defers := [] } W := by
  intro c hc
  have hd := part_eq hc rfl
  subst hd
  clear hc
  intro Q w W b7 b8 bp bx x page other v P u hx hpl hf ho hS hrx hlow hk hQ
  obtain ⟨e1, e2, e3, e4, e5, e6⟩ := stays hk hf ho (by omega)
  have hbn := (mends P x).bnd
  have hlo := look_low hlow x false
  have HRD := Lib.hid (fread_calls (fun b => b ≠ bp) v P x hx W hS.pair hlow)
  have HS := Lib.hid hS
  have HRX := Lib.hid hrx
  have HPG := Lib.hid (show (pageCells page).size = 256 by rw [pageCells_size]; exact hpl)
  have HPN := Lib.hid (show (pageCells noPage).size = 256 by rw [pageCells_size]; exact noPage_len)
  have HQ := Lib.hid hQ
  have HKY := Lib.hid (keyed_page page hpl)
  generalize P.look x false = rr at *
  obtain ⟨pg, OP, ⟨tr, tb, tm⟩, er⟩ := rr
  simp only at e1 e2 e3 e4 e5 e6 hbn hlo
  subst e1
  obtain rfl := e2.symm
  have HLO := Lib.hid hlo
  have hwr : IntKind.i64.wrap (tb + 1) = tr := by rw [e3]; exact wrap_tal (by omega) (by omega)
  have HSC := Lib.hid (fun (W' : World) (ov : PV) (hv : PairAt All W' ov OP) => fscan_calls All ov OP x hx W' hv hlo)
  generalize OP.look x true = ss at *
  obtain ⟨qg, OQ, ⟨ur, ub, um⟩, fr⟩ := ss
  simp only at e4 e5 e6
  subst e4
  obtain rfl := e5.symm
  have hge : decide (tr ≤ ur) = true := decide_eq_true e6
  clear e3 e6 hbn hlo hk hlow hQ hf ho hS hrx
  go_wp2_with (first
    | (refine wpList_val rfl (ex_load (ty := 40) rfl isAgg_pair bp 0 rfl v.cells rfl (v.load HS.out.r15)) ?_)
    | (refine wpList_val rfl (ex_load (ty := 48) rfl isAgg_ptr bx 0 rfl x.cells rfl (x.load HRX.out)) ?_))
  refine HRD.out.mono ?_
  rintro e W4 ⟨ov, rfl, hov, hag⟩
  obtain ⟨A1, A2, A3, S1, S2, W5, hA1, hA2, hA3, hS1, hS2, hS3, hsA1, hsA2, hz1, hz2, hz3, hr5, hr6, hr7, hg5⟩ := box_new3 W4 (pageCells noPage) PV.zero.cells (Tal.mk 0 0 0).cells (pageCells page) ov.cells (Tal.mk tr tb tm).cells 32 40 57
  have hg := hag.trans hg5
  have HZ1 := Lib.hid hz1
  have HZ2 := Lib.hid hz2
  have HZ3 := Lib.hid hz3
  have HR5 := Lib.hid hr5
  have HR6 := Lib.hid hr6
  have HR7 := Lib.hid hr7
  have HO := Lib.hid ((hov.mono (S := All) fun _ _ => trivial).agrees hg5 fun _ _ => trivial)
  replace HRX := Lib.hid ((hg.block _ (Array.getElem?_eq_some_iff.1 HRX.out).1 trivial).trans HRX.out)
  replace HS := Lib.hid (HS.out.agrees hg)
  clear hz1 hz2 hz3 hr5 hr6 hr7 hg5 hg hag hov HRD
  go_wp2_with (first
    | (refine wpList_val rfl (ex_alloc rfl (.agg (pageCells noPage)) zero_page) ?_; rw [show (Value.agg (pageCells noPage)).cells = pageCells noPage from rfl, hA1])
    | (refine wpList_val rfl (ex_alloc rfl (.agg PV.zero.cells) zero_pair) ?_; rw [show (Value.agg PV.zero.cells).cells = PV.zero.cells from rfl, hA2, hsA1])
    | (refine wpList_val rfl (ex_alloc rfl (.agg (Tal.mk 0 0 0).cells) zero_tally) ?_; rw [show (Value.agg (Tal.mk 0 0 0).cells).cells = (Tal.mk 0 0 0).cells from rfl, hA3, hsA2])
    | (refine wpList_unit rfl (ex_storeAll (ty := 32) rfl isAgg_page.2 W4.heap.size rfl (pageCells page) (pageCells noPage) rfl HPG.out HZ1.out HPN.out (pageCells_one _)) ?_; rw [hS1])
    | (refine wpList_unit rfl (ex_storeAll (ty := 40) rfl isAgg_pair.2 (W4.heap.size + 1) rfl ov.cells PV.zero.cells rfl rfl HZ2.out rfl (PV.one _)) ?_; rw [hS2])
    | (refine wpList_unit rfl (ex_storeAll (ty := 57) rfl isAgg_tally.2 (W4.heap.size + 1 + 1) rfl (Tal.mk tr tb tm).cells (Tal.mk 0 0 0).cells rfl rfl HZ3.out rfl (Tal.one _)) ?_; rw [hS3])
    | (refine wpList_val rfl (ex_load (ty := 40) rfl isAgg_pair (W4.heap.size + 1) 0 rfl ov.cells rfl (ov.load HR6.out)) ?_)
    | (refine wpList_val rfl (ex_load (ty := 48) rfl isAgg_ptr bx 0 rfl x.cells rfl (x.load HRX.out)) ?_))
  clear HZ1 HZ2 HZ3 hA1 hA2 hA3 hS1 hS2 hS3 hsA1 hsA2
  refine (HSC.out W5 ov HO.out).mono ?_
  rintro e W6 ⟨qv, rfl, hqv, hag⟩
  obtain ⟨B1, B2, B3, T1, T2, W7, kA1, kA2, kA3, kS1, kS2, kS3, ksA1, ksA2, hz1, hz2, hz3, hr9, hr10, hr11, hg7⟩ := box_new3 W6 (pageCells noPage) PV.zero.cells (Tal.mk 0 0 0).cells (pageCells page) qv.cells (Tal.mk ur ub um).cells 32 40 57
  have hg := hag.trans hg7
  have HZ1 := Lib.hid hz1
  have HZ2 := Lib.hid hz2
  have HZ3 := Lib.hid hz3
  have HAG := Lib.hid (HS.out.ag.trans hg)
  have k : ∀ {b : Nat} {o : Obj}, W5.heap[b]? = some o → W7.heap[b]? = some o := fun hb => (hg.block _ (Array.getElem?_eq_some_iff.1 hb).1 trivial).trans hb
  have HER : RowKit.Hid (ERows W7 b7 W4.heap.size W6.heap.size page tr tb tm ur ub um) := Lib.hid ⟨k HS.out.r7, k HR5.out, k HR7.out, hr9, hr11⟩
  obtain ⟨c0, c1, d0⟩ := HER.out.tals
  clear k hz1 hz2 hz3 hr9 hr10 hr11 hg7 hg hag hqv HR5 HR6 HR7 HSC HS HRX HO
  go_wp2_with (first
    | go_skip
    | (refine wpList_val rfl (ex_alloc rfl (.agg (pageCells noPage)) zero_page) ?_; rw [show (Value.agg (pageCells noPage)).cells = pageCells noPage from rfl, kA1])
    | (refine wpList_val rfl (ex_alloc rfl (.agg PV.zero.cells) zero_pair) ?_; rw [show (Value.agg PV.zero.cells).cells = PV.zero.cells from rfl, kA2, ksA1])
    | (refine wpList_val rfl (ex_alloc rfl (.agg (Tal.mk 0 0 0).cells) zero_tally) ?_; rw [show (Value.agg (Tal.mk 0 0 0).cells).cells = (Tal.mk 0 0 0).cells from rfl, kA3, ksA2])
    | (refine wpList_unit rfl (ex_storeAll (ty := 32) rfl isAgg_page.2 W6.heap.size rfl (pageCells page) (pageCells noPage) rfl HPG.out HZ1.out HPN.out (pageCells_one _)) ?_; rw [kS1])
    | (refine wpList_unit rfl (ex_storeAll (ty := 40) rfl isAgg_pair.2 (W6.heap.size + 1) rfl qv.cells PV.zero.cells rfl rfl HZ2.out rfl (PV.one _)) ?_; rw [kS2])
    | (refine wpList_unit rfl (ex_storeAll (ty := 57) rfl isAgg_tally.2 (W6.heap.size + 1 + 1) rfl (Tal.mk ur ub um).cells (Tal.mk 0 0 0).cells rfl rfl HZ3.out rfl (Tal.one _)) ?_; rw [kS3])
    | (refine wpList_val rfl (ex_load (ty := 32) rfl isAgg_page b7 0 rfl (pageCells page) HPG.out (fun j _ => by rw [Nat.zero_add]; exact cell_of_row _ _ _ _ _ _ HER.out.r7)) ?_)
    | (refine wpList_val rfl (ex_load (ty := 32) rfl isAgg_page W4.heap.size 0 rfl (pageCells page) HPG.out (fun j _ => by rw [Nat.zero_add]; exact cell_of_row _ _ _ _ _ _ HER.out.r21)) ?_)
    | (refine wpList_val rfl (ex_load (ty := 32) rfl isAgg_page W6.heap.size 0 rfl (pageCells page) HPG.out (fun j _ => by rw [Nat.zero_add]; exact cell_of_row _ _ _ _ _ _ HER.out.r25)) ?_)
    | (refine wpList_eqlS keyable_page HKY.out HKY.out rfl rfl rfl rfl ?_; intro r hr; obtain rfl := hr.2 rfl))
  refine (wakes_calls _).mono ?_
  rintro e W8 ⟨rfl, hag⟩
  have HF := Lib.hid (HAG.out.trans hag)
  clear hag
  go_wp2_with fail
  exact HQ.out _ _ rfl rfl HF.out
end Suture
