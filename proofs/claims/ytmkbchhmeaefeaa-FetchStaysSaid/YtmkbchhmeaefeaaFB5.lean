/-
  A PAGE's COPIES, READ: fetch.copies' iterator.
  Conditions: none beyond the pair's own reading.
-/
import Derived.Test.YtmkbchhmeaefeaaFB4
namespace Suture
open Go Go.RowKit Go.Proofs
attribute [local go_sem] Oper.semAt_some

theorem copies_mem (x : Ptr) (hx : x.ok) (c : Int × Int) (h : c ∈ x.copies) : (c.1 = 0 ∨ c.1 = 1) ∧ 0 ≤ c.2 ∧ c.2 ≤ 65535 := by
  obtain ⟨_, h0, h1, _⟩ := hx
  unfold Ptr.copies at h
  split at h <;> simp at h
  · rcases h with rfl | rfl | rfl | rfl <;> simp <;> omega
  · rcases h with rfl | rfl <;> simp <;> omega
theorem copies_pos (x : Ptr) : 0 < x.copies.length := by
  unfold Ptr.copies
  split <;> simp
/-- a copy is on an attached disk -/
def Pair.lives (P : Pair) (c : Int × Int) : Bool := !(P.disk c.1.toNat).off
/-- what a copy has, and whether it is right -/
def Pair.has (P : Pair) (c : Int × Int) : List (BitVec 8) := ((P.disk c.1.toNat).read c.2).1
def Pair.isRight (P : Pair) (x : Ptr) (c : Int × Int) : Bool := ((P.disk c.1.toNat).read c.2).2 == 0 && x.fits (P.has c)
def Pair.found (P : Pair) (x : Ptr) : List (Int × Int) := x.copies.filter P.lives
theorem isAgg_two : IsAgg Try.prog 55 2 := ⟨⟨_, Try.underlying55, rfl⟩, by kernel_rfl⟩

theorem flat_two (l : List (Int × Int)) (i : Nat) (hi : i < l.length) : ∀ j, j < 2 → ((l.map copyL).flatten)[i * 2 + j]? = (copyL (l.getD i (0, 0)))[j]? := by
  induction l generalizing i with
  | nil => simp at hi
  | cons a l ih =>
    intro j hj
    cases i with
    | zero => 
      simp only [List.map_cons, List.flatten_cons, Nat.zero_mul, Nat.zero_add, List.getD_cons_zero]
      rw [List.getElem?_append_left (show j < (copyL a).length from hj)]
    | succ i =>
      simp only [List.map_cons, List.flatten_cons, List.getD_cons_succ]
      rw [List.getElem?_append_right (by show 2 ≤ _; omega), show (i + 1) * 2 + j - (copyL a).length = i * 2 + j by show (i + 1) * 2 + j - 2 = _; omega]
      exact ih i (by simp at hi; omega) j hj

def vCop4 (PB bb d : Nat) (v : PV) (at' : Int) (pg : List (BitVec 8)) (er : Int) : Nat → Value → Prop
  | 0, val => val = .pointer (some ⟨bb, 0, none⟩)
  | 1, val => val = .int .i64 (d : Int)
  | 2, val => val = .pointer (some ⟨PB, 0, none⟩)
  | 3, val => val = .pointer (some ⟨PB, d * 4, none⟩)
  | 4, val => val = .agg (v.disk d).cells
  | 5, val => val = .pointer (some ⟨bb, 1, none⟩)
  | 6, val => val = .int .i64 at'
  | 7, val => val = .tuple #[.agg (pageCells pg), .int .i64 er]
  | 8, val => val = .tuple #[.agg (pageCells pg), .int .i64 er]
  | 9, val => val = .agg (pageCells pg)
  | 10, val => val = .int .i64 er
  | 11, _ => True
  | 12, val => val = undef
  | 13, val => val = .int .i64 er
  | _, _ => True
def vCop5 (l d : Nat) (x : Ptr) (at' : Int) (pg : List (BitVec 8)) (er : Int) : Nat → Value → Prop
  | 0, val => val = .func (.yield l) #[] #[]
  | 1, val => val = .agg (copyL ((d : Int), at')).toArray
  | 2, val => val = .agg (pageCells pg)
  | 3, val => val = .int .i64 er
  | 4, val => val = .bool (er == 0)
  | 5, val => val = .bool (er == 0)
  | 6, v => (er == 0) = true → v = .agg x.cells
  | 7, v => (er == 0) = true → v = .agg (pageCells pg)
  | 8, v => (er == 0) = true → v = .bool (x.fits pg)
  | 9, val => val = .bool (er == 0 && x.fits pg)
  | 10, val => val = .agg (fndCells ((d : Int), at') pg (er == 0 && x.fits pg))
  | 11, v => ∃ r, v = .bool r
  | 12, _ => True
  | _, _ => True

/-- the world of the region that yields -/
def YieldW (W4 : World) (C1 : Nat → Prop) (J Jx : Nat → (Nat → Prop) → World → Prop) (k : Nat) (L : Nat → Bool) (vals : Nat → Value) (W : World) : Prop :=
  if L 11 = true then ∃ r W5, vals 11 = .bool r ∧ (L 12 = true → vals 12 = .bool (!r)) ∧ Agrees All W4 W5 ∧ Agrees (fun b => ¬ C1 b) W5 W ∧ ∃ C', (if r = true then J (k + 1) C' W else Jx k C' W) ∧ ∀ b, C' b → b < W.heap.size ∧ (C1 b ∨ W5.heap.size ≤ b)
  else Agrees All W4 W
section
variable {W4 : World} {C1 : Nat → Prop} {J Jx : Nat → (Nat → Prop) → World → Prop} {k : Nat} {L : Nat → Bool} {vals : Nat → Value} {W : World}
theorem YieldW.start : YieldW W4 C1 J Jx k (fun _ => false) vals W4 := by
  unfold YieldW
  rw [if_neg Bool.false_ne_true]
  exact Agrees.refl _ _
theorem YieldW.at (h : YieldW W4 C1 J Jx k L vals W) (h11 : L 11 = true) : ∃ r W5, vals 11 = .bool r ∧ (L 12 = true → vals 12 = .bool (!r)) ∧ Agrees All W4 W5 ∧ Agrees (fun b => ¬ C1 b) W5 W ∧ ∃ C', (if r = true then J (k + 1) C' W else Jx k C' W) ∧ ∀ b, C' b → b < W.heap.size ∧ (C1 b ∨ W5.heap.size ≤ b) := by
  unfold YieldW at h
  rw [if_pos h11] at h
  exact h
theorem YieldW.pre (h : YieldW W4 C1 J Jx k L vals W) (h11 : L 11 = false) : Agrees All W4 W := by
  unfold YieldW at h
  rw [if_neg (by rw [h11]; exact Bool.false_ne_true)] at h
  exact h
theorem YieldW.keep (_ : YieldW W4 C1 J Jx k L vals W) (h11 : L 11 = false) {i : Nat} (hi : i ≠ 11) {W' : World} (g : Agrees All W4 W') {u : Value} : YieldW W4 C1 J Jx k (setL L i) (updV vals i u) W' := by
  unfold YieldW
  rw [if_neg (by unfold setL; rw [if_neg (fun e => hi e.symm), h11]; exact Bool.false_ne_true)]
  exact g
theorem YieldW.done {r : Bool} (h12 : L 12 = false) {u : Value} (hu : u = .bool r) {W' : World} (g : Agrees All W4 W) (g' : Agrees (fun b => ¬ C1 b) W W') {C' : Nat → Prop} (hj : if r = true then J (k + 1) C' W' else Jx k C' W') (hC : ∀ b, C' b → b < W'.heap.size ∧ (C1 b ∨ W.heap.size ≤ b)) : YieldW W4 C1 J Jx k (setL L 11) (updV vals 11 u) W' := by
  unfold YieldW
  rw [if_pos (by simp [setL])]
  refine ⟨r, W, by simp [updV, hu], (fun h => ?_), g, g', C', hj, hC⟩
  unfold setL at h
  rw [if_neg (by decide), h12] at h
  cases h
theorem YieldW.neg (h : YieldW W4 C1 J Jx k L vals W) (h11 : L 11 = true) {r : Bool} (hr : vals 11 = .bool r) : YieldW W4 C1 J Jx k (setL L 12) (updV vals 12 (.bool (!r))) W := by
  unfold YieldW at h ⊢
  rw [if_pos h11] at h
  rw [if_pos (by simp [setL, h11])]
  obtain ⟨r', W5, h1, h2, h3⟩ := h
  have : r' = r := by rw [h1] at hr; cases hr; rfl
  subst this
  exact ⟨r', W5, by simp [updV, h1], fun _ => by simp [updV], h3⟩
end
theorem opTo_round {Pr : Program} {ops : Array Oper} {o : Oper} {a : Act} {w w' : World} {l : Nat} {f : FuncId} {tmps : Array Value} {assign body : Code} {R : Value → World → Prop} (hw : Region.wanted o (yielded ops a.tmps) = true) (hrun : (execOp a.eval o).run Pr w = .ok (.round l f tmps assign body) w')
    (h : RoundIn Fence.wide 0 Pr l f tmps assign body w' fun e w'' => ∃ v, e = .returned v ∧ R v w'') : OpTo Pr ops o a w R := by
  unfold OpTo; rw [if_pos hw, hrun]; exact h
theorem found_at (x : Ptr) (p : Int × Int → Bool) (i : Nat) (hi : i < x.copies.length) (hp : p (x.copies.getD i (0, 0)) = true) :
    ((x.copies.take i).filter p).length < (x.copies.filter p).length ∧ (x.copies.filter p).getD ((x.copies.take i).filter p).length (0, 0) = x.copies.getD i (0, 0) := by
  have e : x.copies = x.copies.take i ++ x.copies.getD i (0, 0) :: x.copies.drop (i + 1) := by
    conv => lhs; rw [← List.take_append_drop i x.copies]
    rw [List.drop_eq_getElem_cons hi, List.getD_eq_getElem?_getD, List.getElem?_eq_getElem hi]; rfl
  have e2 : x.copies.filter p = (x.copies.take i).filter p ++ x.copies.getD i (0, 0) :: (x.copies.drop (i + 1)).filter p := by
    conv => lhs; rw [e]
    rw [List.filter_append, List.filter_cons, if_pos hp]
  rw [e2]
  constructor
  · simp
  · rw [List.getD_eq_getElem?_getD, List.getElem?_append_right (Nat.le_refl _)]; simp

set_option maxHeartbeats 2000000 in
set_option maxRecDepth 100000 in
theorem fcopies1_iter (R : Nat → Prop) (n₀ : Nat) (w0 : World) (PB XB : Nat) (v : PV) (P : Pair) (x : Ptr) (hx : x.ok) (hv : PairAt R w0 v P) (hpb : w0.heap[PB]? = some (.cells v.cells 40 (0, 0))) (hxb : w0.heap[XB]? = some (.cells x.cells 48 (0, 0))) (hRP : R PB) (hRX : R XB) (hR : ∀ b, R b → b < w0.heap.size) :
    IterAt Try.prog 56 #[.pointer (some ⟨XB, 0, none⟩), .pointer (some ⟨PB, 0, none⟩)] (fun k => #[.agg (fndCells ((P.found x).getD k (0, 0)) (P.has ((P.found x).getD k (0, 0))) (P.isRight x ((P.found x).getD k (0, 0))))]) (P.found x).length n₀ R w0 := by
  intro l J Jx C W hag hC hJ hJx hY h0
  have hB1 := (Array.getElem?_eq_some_iff.1 hpb).1
  have hB2 := (Array.getElem?_eq_some_iff.1 hxb).1
  have hxl := (hag.block XB hB2 hRX).trans hxb
  have HCP := Lib.hid (mCopies_calls x hx W)
  have HAG := Lib.hid hag
  have HCC := Lib.hid hC
  have HY := Lib.hid hY
  have HH0 := Lib.hid h0
  have HJ := Lib.hid hJ
  have HPB := Lib.hid hpb
  have HXB := Lib.hid hxb
  have HXL := Lib.hid hxl
  have HV := Lib.hid hv
  clear hag hC hY h0 hJ hpb hxb hxl hv
  have hpos := copies_pos x
  have hle := copies_le x
  go_enter Try.func56, Try.ntmps56
  go_wp2_with (first | (refine wpList_val rfl (ex_load (ty := 48) rfl isAgg_ptr XB 0 rfl x.cells rfl (x.load HXL.out)) ?_))
  refine HCP.out.mono ?_
  rintro e W1 ⟨sl, rfl, hown, hag1⟩
  obtain ⟨hxs, hcase⟩ := hown
  obtain ⟨g, cap, cur, rfl, hg0, hgr, hcap, hmax, hcs, hct⟩ : ∃ g cap cur, sl = .slice (some ⟨g, 0, none⟩) x.copies.length cap ∧ W.heap.size ≤ g ∧ W1.heap[g]? = some (.cells cur 55 (0, 0)) ∧ x.copies.length ≤ cap ∧ cap ≤ maxLen ∧ cur.size = cap * 2 ∧ cur.toList.take (x.copies.length * 2) = (x.copies.map copyL).flatten := by
    rcases hcase with ⟨_, h⟩ | h
    · omega
    · exact h
  clear hcase
  have helem : ∀ i, i < x.copies.length → ∀ j, j < 2 → cur[i * 2 + j]? = (copyL (x.copies.getD i (0, 0)))[j]? := by
    intro i hi j hj
    rw [← flat_two x.copies i hi j hj, ← hct, List.getElem?_take_of_lt (by omega), Array.getElem?_toList]
  have HEL := Lib.hid helem
  have HGR := Lib.hid hgr
  have hgl := (Array.getElem?_eq_some_iff.1 hgr).1
  have HA1 := Lib.hid (HAG.out.trans hag1.weak)
  have hj1 := HJ.out _ _ _ _ HH0.out hag1.weak
  have hc1 : ∀ b, C b → ¬ (R b ∨ b = g) ∧ b < W1.heap.size := fun b hb => ⟨fun h => h.elim (fun h => (HCC.out b hb).1 h) (fun e => by have := (HCC.out b hb).2; omega), by have := (HCC.out b hb).2; have := hag1.size; omega⟩
  have HJ1 := Lib.hid hj1
  have HC1 := Lib.hid hc1
  have hcnt : (x.copies.take 0).filter P.lives = [] := rfl
  generalize hn : x.copies.length = n at *
  clear hxs hct helem hgr hag1 hj1 hc1
  go_wp2
  go_loopw [11] (fun vv wr => ∃ (C : Nat → Prop) (i : Nat), i ≤ n ∧ vv = .int .i64 i ∧ RowKit.Hid (J ((x.copies.take i).filter P.lives).length C wr ∧ Agrees (fun b => R b ∨ b = g) W1 wr ∧ ∀ b, C b → ¬ (R b ∨ b = g) ∧ b < wr.heap.size)) (fun vv _ => n - (intOf vv).toNat)
  case atStart => exact ⟨C, 0, by omega, rfl, ⟨HJ1.out, Agrees.refl _ _, HC1.out⟩⟩
  case round =>
    obtain ⟨C1, i, hi, rfl, HW⟩ := hrel
    obtain ⟨hj, ha, hc⟩ := HW.out
    have hgW := (ha.block g hgl (.inr rfl)).trans HGR.out
    have HGW := Lib.hid hgW
    have hw1 := HA1.out.size
    have haR := HA1.out.trans' ha (fun b hb hr => .inl hr)
    have hpW := (haR.block PB hB1 hRP).trans HPB.out
    have hxW := (haR.block XB hB2 hRX).trans HXB.out
    by_cases hlt : i < n
    · have hL2 := Lib.hid (show ∀ j, j < 2 → wr.cell? ⟨g, i * 2 + j, none⟩ = (copyL (x.copies.getD i (0, 0))).toArray[j]? from fun j hj => by
        rw [cell_of_row _ _ _ _ _ _ HGW.out, HEL.out i hlt j hj]; simp)
      have hmem : x.copies.getD i (0, 0) ∈ x.copies := by
        rw [List.getD_eq_getElem?_getD, List.getElem?_eq_getElem (by omega)]; exact List.getElem_mem _
      obtain ⟨hd, h0a, h1a⟩ := copies_mem x hx _ hmem
      have hsuc : x.copies.take (i + 1) = x.copies.take i ++ [x.copies.getD i (0, 0)] := by
        rw [List.take_succ_eq_append_getElem (by omega), List.getD_eq_getElem?_getD, List.getElem?_eq_getElem (by omega)]; rfl
      generalize hcd : x.copies.getD i (0, 0) = cd at *
      obtain ⟨dk, at'⟩ := cd
      simp only at hd h0a h1a
      obtain ⟨W2, hW2⟩ : ∃ W2, (wr.alloc (.cells #[.int .i64 0, .int .i64 0] 55)).setRow wr.heap.size (copyL (dk, at')).toArray = W2 := ⟨_, rfl⟩
      have hz := World.alloc_heap_new wr (.cells #[.int .i64 0, .int .i64 0] 55)
      have hs2 : W2.heap.size = wr.heap.size + 1 := by rw [← hW2]; simp [World.setRow]
      have hA2 : Agrees All wr W2 := by rw [← hW2]; exact ((Agrees.refl _ _).alloc _).setRow (.inr (Nat.le_refl _)) _
      have hb2 : W2.heap[wr.heap.size]? = some (.cells (copyL (dk, at')).toArray 55 (0, 0)) := by rw [← hW2]; exact setRow_heap _ _ _ _ _ _ hz
      have hp2 := (hA2.block PB (Array.getElem?_eq_some_iff.1 hpW).1 trivial).trans hpW
      have k0 : W2.cell? ⟨wr.heap.size, 0, none⟩ = some (.int .i64 dk) := by rw [cell_of_row _ _ _ _ _ _ hb2]; rfl
      have k1 : W2.cell? ⟨wr.heap.size, 1, none⟩ = some (.int .i64 at') := by rw [cell_of_row _ _ _ _ _ _ hb2]; rfl
      have hoff : ∀ d : Nat, d < 2 → W2.cell? ⟨PB, d * 4 + 3, none⟩ = some (.bool (v.disk d).off) := by
        intro d hd2
        rw [cell_of_row _ _ _ _ _ _ hp2]
        have : d = 0 ∨ d = 1 := by omega
        rcases this with rfl | rfl <;> rfl
      have HZ := Lib.hid hz
      have HB2 := Lib.hid hb2
      have HP2 := Lib.hid hp2
      have HA2 := Lib.hid hA2
      have HJW := Lib.hid hj
      have HCW := Lib.hid hc
      have HAW := Lib.hid ha
      have HAR := Lib.hid haR
      have HXW := Lib.hid hxW
      have HMM := Lib.hid hsuc
      have HNX := Lib.hid (show (x.copies.take (i + 1)).filter P.lives = (x.copies.take i).filter P.lives ++ (if P.lives (dk, at') then [(dk, at')] else []) by rw [hsuc, List.filter_append, List.filter_cons, List.filter_nil])
      clear hz hb2 hp2 hA2 hj hc ha haR hpW hxW HW hsuc hgW hmem
      obtain ⟨d, rfl⟩ : ∃ d : Nat, dk = d := ⟨dk.toNat, by omega⟩
      have hd2 : d < 2 := by omega
      have hof := hoff d hd2
      clear hoff hd
      go_wp2_with (first
        | (refine wpList_val rfl (ex_load (ty := 55) rfl isAgg_two g (i * 2) rfl (copyL ((d : Int), at')).toArray rfl hL2.out) ?_)
        | (refine wpList_val rfl (ex_alloc rfl (.agg #[.int .i64 0, .int .i64 0]) (fun w => by kernel_rfl)) ?_; rw [show (Value.agg #[Value.int .i64 0, Value.int .i64 0]).cells = #[.int .i64 0, .int .i64 0] from rfl])
        | (refine wpList_unit rfl (ex_storeAll (ty := 55) rfl isAgg_two.2 wr.heap.size rfl (copyL ((d : Int), at')).toArray #[.int .i64 0, .int .i64 0] rfl rfl HZ.out rfl (by intro u hu; simp [copyL] at hu; rcases hu with rfl | rfl <;> rfl)) ?_; rw [hW2]))
      · have hpo : (P.disk d).off = (v.disk d).off := (HV.out.disk d).off
        have hlv : P.lives ((d : Int), at') = !(v.disk d).off := by unfold Pair.lives; rw [Int.toNat_natCast, hpo]
        have hoffv : (v.disk d).off = true := by assumption
        rw [hlv, hoffv] at HNX
        have hnx : (x.copies.take (i + 1)).filter P.lives = (x.copies.take i).filter P.lives := by rw [HNX.out]; simp
        refine ⟨⟨C1, i + 1, by omega, by simp, Lib.hid ⟨?_, HAW.out.trans (HA2.out.weak), fun b hb => ⟨(HCW.out b hb).1, by have := (HCW.out b hb).2; omega⟩⟩⟩, by simp [intOf]; omega⟩
        rw [hnx]
        exact HJ.out _ _ _ _ HJW.out HA2.out.weak
      · have hpo : (P.disk d).off = (v.disk d).off := (HV.out.disk d).off
        have hlv : P.lives ((d : Int), at') = !(v.disk d).off := by unfold Pair.lives; rw [Int.toNat_natCast, hpo]
        have hoffv : (v.disk d).off = false := by assumption
        rw [hlv, hoffv] at HNX
        generalize hbb : wr.heap.size = bb at *
        obtain ⟨pg, er, hrd⟩ : ∃ pg er, (P.disk d).read at' = (pg, er) := ⟨_, _, rfl⟩
        have hlp : pg.length = 256 := by have := Disk.read_len (P.disk d) (HV.out.disk d).ok at'; rw [hrd] at this; exact this
        obtain ⟨W3, hW3⟩ : ∃ W3, W2.drew = W3 := ⟨_, rfl⟩
        have hA3 : Agrees All wr W3 := by rw [← hW3]; exact HA2.out.drew
        have hb0 : W3.heap[bb]? = some (.cells (copyL ((d : Int), at')).toArray 55 (0, 0)) := by rw [← hW3]; exact HB2.out
        have hp0 : W3.heap[PB]? = some (.cells v.cells 40 (0, 0)) := by rw [← hW3]; exact HP2.out
        have HRD : RowKit.Hid (∀ W', Agrees All W3 W' → Calls Try.prog 58 #[.agg (v.disk d).cells, .int .i64 at'] W' fun e w' => e = .returned (.tuple #[.agg (pageCells pg), .int .i64 er]) ∧ Agrees All W' w') := by
          refine Lib.hid (fun W' h => ?_)
          have := vread_calls (v.disk d) (P.disk d) at' W' (((HV.out.disk d).agrees ((HAR.out.trans hA3.weak).trans h.weak) fun _ h => h).mono fun _ _ => trivial)
          rw [hrd] at this
          exact this
        have hdl : ∀ W : World, W.heap[PB]? = some (.cells v.cells 40 (0, 0)) → ∀ j, j < 4 → W.cell? ⟨PB, d * 4 + j, none⟩ = (v.disk d).cells[j]? := by
          intro W h j hj
          rw [cell_of_row _ _ _ _ _ _ h]
          have h1 : d = 0 ∨ d = 1 := by omega
          have h2 : j = 0 ∨ j = 1 ∨ j = 2 ∨ j = 3 := by omega
          rcases h1 with rfl | rfl <;> rcases h2 with rfl | rfl | rfl | rfl <;> rfl
        refine wp_region_plan (by kernel_rfl) ?hok4 (by kernel_rfl) (vCop4 PB bb d v at' pg er) (Boxed W3 [⟨11, 12, 32, pageCells noPage, pageCells pg⟩]) ?h04 (fun i hi => ?steps4) ?hend4
        case hok4 => kernel_rfl
        case h04 => exact fun vals => by rw [hW3]; exact Boxed.start
        case steps4 =>
          clear hcd
          have hi' : i < 14 := hi
          match i, hi' with
          | 0, _ =>
            refine steps_of rfl ?_
            intro L aq wq hL hd st wi
            have o5 := st.outside (t := 5) rfl (v := .pointer (some ⟨bb, 0, none⟩)) rfl
            exact opTo_val (v := .pointer (some ⟨bb, 0, none⟩)) rfl (by simp [go_sem, Act.eval, o5]) ⟨(fun h => by cases h), rfl, wi.other rfl _⟩
          | 1, _ =>
            refine steps_of rfl ?_
            intro L aq wq hL hd st wi
            obtain ⟨u0, e0, V0⟩ := st.val 0 _ _ rfl rfl (hd ⟨0, .data⟩ (by simp) rfl)
            obtain rfl : .pointer (some ⟨bb, 0, none⟩) = u0 := V0.symm
            exact opTo_val (v := .int .i64 (d : Int)) rfl (ex_load1 rfl oneInt (eval_tmp e0) (by rw [cell_of_row _ _ _ _ _ _ ((wi.ag.block _ (Array.getElem?_eq_some_iff.1 hb0).1 trivial).trans hb0)]; rfl)) ⟨(fun h => by cases h), rfl, wi.other rfl _⟩
          | 2, _ =>
            refine steps_of rfl ?_
            intro L aq wq hL hd st wi
            have o2 := st.outside (t := 2) rfl (v := .pointer (some ⟨PB, 0, none⟩)) rfl
            exact opTo_val (v := .pointer (some ⟨PB, 0, none⟩)) rfl (by simp [go_sem, Act.eval, o2]) ⟨(fun h => by cases h), rfl, wi.other rfl _⟩
          | 3, _ =>
            refine steps_of rfl ?_
            intro L aq wq hL hd st wi
            obtain ⟨u2, e2, V2⟩ := st.val 2 _ _ rfl rfl (hd ⟨2, .data⟩ (by simp) rfl)
            obtain rfl : .pointer (some ⟨PB, 0, none⟩) = u2 := V2.symm
            obtain ⟨u1, e1, V1⟩ := st.val 1 _ _ rfl rfl (hd ⟨1, .data⟩ (by simp) rfl)
            obtain rfl : .int .i64 (d : Int) = u1 := V1.symm
            exact opTo_val (v := .pointer (some ⟨PB, d * 4, none⟩)) rfl (by have := hd2; simp [go_sem, Act.eval, e1, e2]; omega) ⟨(fun h => by cases h), rfl, wi.other rfl _⟩
          | 4, _ =>
            refine steps_of rfl ?_
            intro L aq wq hL hd st wi
            obtain ⟨u3, e3, V3⟩ := st.val 3 _ _ rfl rfl (hd ⟨3, .data⟩ (by simp) rfl)
            obtain rfl : .pointer (some ⟨PB, d * 4, none⟩) = u3 := V3.symm
            exact opTo_val (v := .agg (v.disk d).cells) rfl (ex_load rfl isAgg_disk PB (d * 4) (eval_tmp e3) (v.disk d).cells rfl (hdl _ ((wi.ag.block _ (Array.getElem?_eq_some_iff.1 hp0).1 trivial).trans hp0))) ⟨(fun h => by cases h), rfl, wi.other rfl _⟩
          | 5, _ =>
            refine steps_of rfl ?_
            intro L aq wq hL hd st wi
            have o5 := st.outside (t := 5) rfl (v := .pointer (some ⟨bb, 0, none⟩)) rfl
            exact opTo_val (v := .pointer (some ⟨bb, 1, none⟩)) rfl (by simp [go_sem, Act.eval, o5]) ⟨(fun h => by cases h), rfl, wi.other rfl _⟩
          | 6, _ =>
            refine steps_of rfl ?_
            intro L aq wq hL hd st wi
            obtain ⟨u5, e5, V5⟩ := st.val 5 _ _ rfl rfl (hd ⟨5, .data⟩ (by simp) rfl)
            obtain rfl : .pointer (some ⟨bb, 1, none⟩) = u5 := V5.symm
            exact opTo_val (v := .int .i64 at') rfl (ex_load1 rfl oneInt (eval_tmp e5) (by rw [cell_of_row _ _ _ _ _ _ ((wi.ag.block _ (Array.getElem?_eq_some_iff.1 hb0).1 trivial).trans hb0)]; rfl)) ⟨(fun h => by cases h), rfl, wi.other rfl _⟩
          | 7, _ =>
            refine steps_of rfl ?_
            intro L aq wq hL hd st wi
            obtain ⟨u4, e4, V4⟩ := st.val 4 _ _ rfl rfl (hd ⟨4, .data⟩ (by simp) rfl)
            obtain rfl : .agg (v.disk d).cells = u4 := V4.symm
            obtain ⟨u6, e6, V6⟩ := st.val 6 _ _ rfl rfl (hd ⟨6, .data⟩ (by simp) rfl)
            obtain rfl : .int .i64 at' = u6 := V6.symm
            refine opTo_call (w' := wq) (f := 58) (args := #[.agg (v.disk d).cells, .int .i64 at']) rfl (by simp [go_sem, Act.eval, e4, e6]) ((HRD.out wq wi.ag).mono ?_)
            rintro e w' ⟨rfl, hag⟩
            exact ⟨_, rfl, (fun h => by cases h), rfl, (wi.mono hag).other rfl _⟩
          | 8, _ =>
            refine steps_of rfl ?_
            intro L aq wq hL hd st wi
            obtain ⟨u7, e7, V7⟩ := st.val 7 _ _ rfl rfl (hd ⟨7, .data⟩ (by simp) rfl)
            obtain rfl : .tuple #[.agg (pageCells pg), .int .i64 er] = u7 := V7.symm
            exact opTo_val (v := .tuple #[.agg (pageCells pg), .int .i64 er]) rfl (ex_move (.inl rfl) (eval_tmp e7)) ⟨(fun h => by cases h), rfl, wi.other rfl _⟩
          | 9, _ =>
            refine steps_of rfl ?_
            intro L aq wq hL hd st wi
            obtain ⟨u8, e8, V8⟩ := st.val 8 _ _ rfl rfl (hd ⟨8, .data⟩ (by simp) rfl)
            obtain rfl : .tuple #[.agg (pageCells pg), .int .i64 er] = u8 := V8.symm
            exact opTo_val (v := .agg (pageCells pg)) rfl (by simp [go_sem, Act.eval, e8]) ⟨(fun h => by cases h), rfl, wi.other rfl _⟩
          | 10, _ =>
            refine steps_of rfl ?_
            intro L aq wq hL hd st wi
            obtain ⟨u8, e8, V8⟩ := st.val 8 _ _ rfl rfl (hd ⟨8, .data⟩ (by simp) rfl)
            obtain rfl : .tuple #[.agg (pageCells pg), .int .i64 er] = u8 := V8.symm
            exact opTo_val (v := .int .i64 er) rfl (by simp [go_sem, Act.eval, e8]) ⟨(fun h => by cases h), rfl, wi.other rfl _⟩
          | 11, _ =>
            refine steps_of rfl ?_
            intro L aq wq hL hd st wi
            have hs12 : L 12 = false := by
              cases h : L 12
              · rfl
              · have := st.closed 12 _ rfl h ⟨11, .data⟩ (by simp) rfl
                rw [hL] at this; cases this
            exact opTo_val (v := .pointer (some ⟨wq.heap.size, 0, none⟩)) (w' := wq.alloc (.cells (pageCells noPage) 32)) rfl (ex_alloc rfl (.agg (pageCells noPage)) zero_page) ⟨(fun h => by cases h), trivial, wi.alloc (x := ⟨11, 12, 32, pageCells noPage, pageCells pg⟩) rfl (by simp) (by intro y hy; simp at hy; rw [hy]; simp) hs12 hL⟩
          | 12, _ =>
            refine steps_of rfl ?_
            intro L aq wq hL hd st wi
            obtain ⟨u11, e11, V11⟩ := st.val 11 _ _ rfl rfl (hd ⟨11, .data⟩ (by simp) rfl)
            obtain ⟨u9, e9, V9⟩ := st.val 9 _ _ rfl rfl (hd ⟨9, .data⟩ (by simp) rfl)
            obtain rfl : .agg (pageCells pg) = u9 := V9.symm
            have hLa := hd ⟨11, .data⟩ (by simp) rfl
            obtain ⟨b, hb, hlo, hrow⟩ := wi.row ⟨11, 12, 32, pageCells noPage, pageCells pg⟩ (by simp) hLa
            rw [slotV_val rfl rfl e11] at hb
            obtain rfl := hb
            rw [show (Box.mk 11 12 32 (pageCells noPage) (pageCells pg)).now L = pageCells noPage by unfold Box.now; rw [hL]; rfl] at hrow
            refine opTo_skip rfl (ex_storeAll (n := 256) rfl isAgg_page.2 b (eval_tmp e11) (pageCells pg) (pageCells noPage) (eval_tmp e9) (by rw [pageCells_size]; exact hlp) hrow (by rw [pageCells_size, noPage_len]) (pageCells_one pg)) ⟨fun _ => rfl, rfl, ?_⟩
            exact wi.store (x := ⟨11, 12, 32, pageCells noPage, pageCells pg⟩) rfl (by simp) (by intro y hy; simp at hy; rw [hy]; simp) (by intro y hy; simp at hy; rw [hy]; simp) hLa (slotV_val rfl rfl e11)
          | 13, _ =>
            refine steps_of rfl ?_
            intro L aq wq hL hd st wi
            obtain ⟨u10, e10, V10⟩ := st.val 10 _ _ rfl rfl (hd ⟨10, .data⟩ (by simp) rfl)
            obtain rfl : .int .i64 er = u10 := V10.symm
            exact opTo_val (v := .int .i64 er) rfl (ex_move (.inr rfl) (eval_tmp e10)) ⟨(fun h => by cases h), rfl, wi.other rfl _⟩
          | (i + 14), h => omega
        case hend4 =>
          intro vals w' hV hW
          obtain ⟨q, hq11, _, hqr⟩ := hW.row ⟨11, 12, 32, pageCells noPage, pageCells pg⟩ (by simp) rfl
          have hqr' : w'.heap[q]? = some (.cells (pageCells pg) 32 (0, 0)) := hqr
          have hq11' : vals 11 = .pointer (some ⟨q, 0, none⟩) := hq11
          have x13 : vals 13 = .int .i64 er := hV 13 _ _ rfl rfl
          obtain ⟨W4, hW4⟩ : ∃ W4, w'.drew = W4 := ⟨_, rfl⟩
          have hA4 : Agrees All wr W4 := by rw [← hW4]; exact (hA3.trans hW.ag).drew
          have hq0 : W4.heap[q]? = some (.cells (pageCells pg) 32 (0, 0)) := by rw [← hW4]; exact hqr'
          have hb4 : W4.heap[bb]? = some (.cells (copyL ((d : Int), at')).toArray 55 (0, 0)) := by
            rw [← hW4]; exact (hW.ag.block _ (Array.getElem?_eq_some_iff.1 hb0).1 trivial).trans hb0
          have hx0 : W4.heap[XB]? = some (.cells x.cells 48 (0, 0)) := (hA4.block _ (Array.getElem?_eq_some_iff.1 HXW.out).1 trivial).trans HXW.out
          have HHW := Lib.hid hW4
          simp only [putAll, Act.put, List.setIfInBounds_toArray, List.set_cons_succ, List.set_cons_zero, hq11', x13]
          generalize hk : ((x.copies.take i).filter P.lives).length = k at *
          obtain ⟨hk1, hk2⟩ := found_at x P.lives i (by omega) (by rw [hcd, hlv, hoffv]; rfl)
          rw [hk] at hk1 hk2
          rw [hcd] at hk2
          have HYK : RowKit.Hid (∀ W', Agrees All W4 W' → YieldAt Fence.wide 0 Try.prog l #[.agg (fndCells ((d : Int), at') pg (er == 0 && x.fits pg))] W' fun e W2 =>
              (e = .returned (.bool true) ∧ Agrees (fun b => ¬ C1 b) W' W2 ∧ ∃ C', J (k + 1) C' W2 ∧ (∀ b, C' b → b < W2.heap.size ∧ (C1 b ∨ W'.heap.size ≤ b))) ∨
              (e = .returned (.bool false) ∧ Agrees (fun b => ¬ C1 b) W' W2 ∧ ∃ C', Jx k C' W2 ∧ (∀ b, C' b → b < W2.heap.size ∧ (C1 b ∨ W'.heap.size ≤ b)))) := by
            refine Lib.hid (fun W' h => ?_)
            have hh := HY.out k C1 W' hk1 (HJ.out _ _ _ _ HJW.out (hA4.trans h).weak) (fun b hb => by have := (HCW.out b hb).2; have := (hA4.trans h).size; omega)
            rw [show (P.found x).getD k (0, 0) = ((d : Int), at') from hk2] at hh
            have e1 : P.has ((d : Int), at') = pg := by unfold Pair.has; rw [Int.toNat_natCast, hrd]
            have e2 : P.isRight x ((d : Int), at') = (er == 0 && x.fits pg) := by unfold Pair.isRight; rw [e1, Int.toNat_natCast, hrd]
            rw [e1, e2] at hh
            exact hh
          clear hV hW hq11 hq11' hqr hqr' x13 hW4 hb0 hp0 hdl HRD hcd
          have hb0 := hb4
          go_wp2_with fail
          refine wp_region_plan (by kernel_rfl) ?hok5 (by kernel_rfl) (vCop5 l d x at' pg er) (YieldW W4 C1 J Jx k) ?h05 (fun i hi => ?steps5) ?hend5
          case hok5 => kernel_rfl
          case h05 => exact fun vals => by rw [HHW.out]; exact YieldW.start
          case steps5 =>
            have hi' : i < 13 := hi
            match i, hi' with
            | 0, _ =>
              refine steps_of rfl ?_
              intro L aq wq hL hd st wi
              have o0 := st.outside (t := 0) rfl (v := .func (.yield l) #[] #[]) rfl
              have h11 : L 11 = false := by
                cases h : L 11
                · rfl
                · have q0 := st.closed 11 _ rfl h ⟨0, .data⟩ (by simp) rfl
                  rw [hL] at q0; cases q0
              have hag := wi.pre h11
              exact opTo_val (v := .func (.yield l) #[] #[]) rfl (ex_move (.inl rfl) (eval_tmp o0)) ⟨(fun h => by cases h), rfl, wi.keep h11 (by decide) hag⟩
            | 1, _ =>
              refine steps_of rfl ?_
              intro L aq wq hL hd st wi
              have o5 := st.outside (t := 5) rfl (v := .pointer (some ⟨bb, 0, none⟩)) rfl
              have h11 : L 11 = false := by
                cases h : L 11
                · rfl
                · have q10 := st.closed 11 _ rfl h ⟨10, .data⟩ (by simp) rfl
                  have q1 := st.closed 10 _ rfl q10 ⟨1, .data⟩ (by simp) rfl
                  rw [hL] at q1; cases q1
              have hag := wi.pre h11
              exact opTo_val (v := .agg (copyL ((d : Int), at')).toArray) rfl (ex_load rfl isAgg_two bb 0 (eval_tmp o5) (copyL ((d : Int), at')).toArray rfl (fun j _ => by rw [Nat.zero_add]; exact cell_of_row _ _ _ _ _ _ ((hag.block _ (Array.getElem?_eq_some_iff.1 hb0).1 trivial).trans hb0))) ⟨(fun h => by cases h), rfl, wi.keep h11 (by decide) hag⟩
            | 2, _ =>
              refine steps_of rfl ?_
              intro L aq wq hL hd st wi
              have o6 := st.outside (t := 6) rfl (v := .pointer (some ⟨q, 0, none⟩)) rfl
              have h11 : L 11 = false := by
                cases h : L 11
                · rfl
                · have q10 := st.closed 11 _ rfl h ⟨10, .data⟩ (by simp) rfl
                  have q2 := st.closed 10 _ rfl q10 ⟨2, .data⟩ (by simp) rfl
                  rw [hL] at q2; cases q2
              have hag := wi.pre h11
              exact opTo_val (v := .agg (pageCells pg)) rfl (ex_load rfl isAgg_page q 0 (eval_tmp o6) (pageCells pg) (by rw [pageCells_size]; exact hlp) (fun j _ => by rw [Nat.zero_add]; exact cell_of_row _ _ _ _ _ _ ((hag.block _ (Array.getElem?_eq_some_iff.1 hq0).1 trivial).trans hq0))) ⟨(fun h => by cases h), rfl, wi.keep h11 (by decide) hag⟩
            | 3, _ =>
              refine steps_of rfl ?_
              intro L aq wq hL hd st wi
              have o7 := st.outside (t := 7) rfl (v := .int .i64 er) rfl
              have h11 : L 11 = false := by
                cases h : L 11
                · rfl
                · have q10 := st.closed 11 _ rfl h ⟨10, .data⟩ (by simp) rfl
                  have q9 := st.closed 10 _ rfl q10 ⟨9, .data⟩ (by simp) rfl
                  have q5 := st.closed 9 _ rfl q9 ⟨5, .data⟩ (by simp) rfl
                  have q4 := st.closed 5 _ rfl q5 ⟨4, .data⟩ (by simp) rfl
                  have q3 := st.closed 4 _ rfl q4 ⟨3, .data⟩ (by simp) rfl
                  rw [hL] at q3; cases q3
              have hag := wi.pre h11
              exact opTo_val (v := .int .i64 er) rfl (ex_move (.inl rfl) (eval_tmp o7)) ⟨(fun h => by cases h), rfl, wi.keep h11 (by decide) hag⟩
            | 4, _ =>
              refine steps_of rfl ?_
              intro L aq wq hL hd st wi
              obtain ⟨u3, e3, V3⟩ := st.val 3 _ _ rfl rfl (hd ⟨3, .data⟩ (by simp) rfl)
              obtain rfl : .int .i64 er = u3 := V3.symm
              have h11 : L 11 = false := by
                cases h : L 11
                · rfl
                · have q10 := st.closed 11 _ rfl h ⟨10, .data⟩ (by simp) rfl
                  have q9 := st.closed 10 _ rfl q10 ⟨9, .data⟩ (by simp) rfl
                  have q5 := st.closed 9 _ rfl q9 ⟨5, .data⟩ (by simp) rfl
                  have q4 := st.closed 5 _ rfl q5 ⟨4, .data⟩ (by simp) rfl
                  rw [hL] at q4; cases q4
              have hag := wi.pre h11
              exact opTo_val (v := .bool (er == 0)) rfl (by simp [go_sem, Act.eval, e3]) ⟨(fun h => by cases h), rfl, wi.keep h11 (by decide) hag⟩
            | 5, _ =>
              refine steps_of rfl ?_
              intro L aq wq hL hd st wi
              obtain ⟨u4, e4, V4⟩ := st.val 4 _ _ rfl rfl (hd ⟨4, .data⟩ (by simp) rfl)
              obtain rfl : .bool (er == 0) = u4 := V4.symm
              have h11 : L 11 = false := by
                cases h : L 11
                · rfl
                · have q10 := st.closed 11 _ rfl h ⟨10, .data⟩ (by simp) rfl
                  have q9 := st.closed 10 _ rfl q10 ⟨9, .data⟩ (by simp) rfl
                  have q5 := st.closed 9 _ rfl q9 ⟨5, .data⟩ (by simp) rfl
                  rw [hL] at q5; cases q5
              have hag := wi.pre h11
              exact opTo_val (v := .bool (er == 0)) rfl (ex_move (.inl rfl) (eval_tmp e4)) ⟨(fun h => by cases h), rfl, wi.keep h11 (by decide) hag⟩
            | 6, _ =>
              refine steps_of rfl ?_
              intro L aq wq hL hd st wi
              have o1 := st.outside (t := 1) rfl (v := .pointer (some ⟨XB, 0, none⟩)) rfl
              obtain ⟨u5, e5, V5⟩ := st.val 5 _ _ rfl rfl (hd ⟨5, .guard⟩ (by simp) rfl)
              obtain rfl : .bool (er == 0) = u5 := V5.symm
              have h11 : L 11 = false := by
                cases h : L 11
                · rfl
                · have q8 := st.closed 11 _ rfl h ⟨8, .chain⟩ (by simp) rfl
                  have q6 := st.closed 8 _ rfl q8 ⟨6, .data⟩ (by simp) rfl
                  rw [hL] at q6; cases q6
              have hag := wi.pre h11
              by_cases hz : (er == 0) = true
              · rw [hz] at e5
                exact opTo_val (v := .agg x.cells) (by simp [Region.wanted, yielded, e5]) (ex_load rfl isAgg_ptr XB 0 (eval_tmp o1) x.cells rfl (x.load ((hag.block _ (Array.getElem?_eq_some_iff.1 hx0).1 trivial).trans hx0))) ⟨(fun h => by cases h), (fun _ => rfl), wi.keep h11 (by decide) hag⟩
              · have hz' : (er == 0) = false := by simpa using hz
                rw [hz'] at e5
                exact opTo_not (by simp [Region.wanted, yielded, e5]) ⟨(fun h => by cases h), (fun h => absurd h hz), wi.keep h11 (by decide) hag⟩
            | 7, _ =>
              refine steps_of rfl ?_
              intro L aq wq hL hd st wi
              have o6 := st.outside (t := 6) rfl (v := .pointer (some ⟨q, 0, none⟩)) rfl
              obtain ⟨u5, e5, V5⟩ := st.val 5 _ _ rfl rfl (hd ⟨5, .guard⟩ (by simp) rfl)
              obtain rfl : .bool (er == 0) = u5 := V5.symm
              have h11 : L 11 = false := by
                cases h : L 11
                · rfl
                · have q8 := st.closed 11 _ rfl h ⟨8, .chain⟩ (by simp) rfl
                  have q7 := st.closed 8 _ rfl q8 ⟨7, .data⟩ (by simp) rfl
                  rw [hL] at q7; cases q7
              have hag := wi.pre h11
              by_cases hz : (er == 0) = true
              · rw [hz] at e5
                exact opTo_val (v := .agg (pageCells pg)) (by simp [Region.wanted, yielded, e5]) (ex_load rfl isAgg_page q 0 (eval_tmp o6) (pageCells pg) (by rw [pageCells_size]; exact hlp) (fun j _ => by rw [Nat.zero_add]; exact cell_of_row _ _ _ _ _ _ ((hag.block _ (Array.getElem?_eq_some_iff.1 hq0).1 trivial).trans hq0))) ⟨(fun h => by cases h), (fun _ => rfl), wi.keep h11 (by decide) hag⟩
              · have hz' : (er == 0) = false := by simpa using hz
                rw [hz'] at e5
                exact opTo_not (by simp [Region.wanted, yielded, e5]) ⟨(fun h => by cases h), (fun h => absurd h hz), wi.keep h11 (by decide) hag⟩
            | 8, _ =>
              refine steps_of rfl ?_
              intro L aq wq hL hd st wi
              obtain ⟨u6, e6, V6⟩ := st.val 6 _ _ rfl rfl (hd ⟨6, .data⟩ (by simp) rfl)
              obtain ⟨u7, e7, V7⟩ := st.val 7 _ _ rfl rfl (hd ⟨7, .data⟩ (by simp) rfl)
              obtain ⟨u5, e5, V5⟩ := st.val 5 _ _ rfl rfl (hd ⟨5, .chain⟩ (by simp) rfl)
              obtain rfl : .bool (er == 0) = u5 := V5.symm
              have h11 : L 11 = false := by
                cases h : L 11
                · rfl
                · have q8 := st.closed 11 _ rfl h ⟨8, .chain⟩ (by simp) rfl
                  rw [hL] at q8; cases q8
              have hag := wi.pre h11
              by_cases hz : (er == 0) = true
              · rw [hz] at e5
                obtain rfl := V6 hz
                obtain rfl := V7 hz
                refine opTo_call (w' := wq) (f := 59) (args := #[.agg x.cells, .agg (pageCells pg)]) (by simp [Region.wanted, yielded, e5]) (by simp [go_sem, Act.eval, e6, e7]) ((fits_calls x pg hlp wq).mono ?_)
                rintro e w' ⟨rfl, hg2⟩
                exact ⟨_, rfl, (fun h => by cases h), (fun _ => rfl), wi.keep h11 (by decide) (hag.trans hg2)⟩
              · have hz' : (er == 0) = false := by simpa using hz
                rw [hz'] at e5
                exact opTo_not (by simp [Region.wanted, yielded, e5]) ⟨(fun h => by cases h), (fun h => absurd h hz), wi.keep h11 (by decide) hag⟩
            | 9, _ =>
              refine steps_of rfl ?_
              intro L aq wq hL hd st wi
              obtain ⟨u5, e5, V5⟩ := st.val 5 _ _ rfl rfl (hd ⟨5, .data⟩ (by simp) rfl)
              obtain rfl : .bool (er == 0) = u5 := V5.symm
              obtain ⟨u8, e8, V8⟩ := st.val 8 _ _ rfl rfl (hd ⟨8, .data⟩ (by simp) rfl)
              have h11 : L 11 = false := by
                cases h : L 11
                · rfl
                · have q10 := st.closed 11 _ rfl h ⟨10, .data⟩ (by simp) rfl
                  have q9 := st.closed 10 _ rfl q10 ⟨9, .data⟩ (by simp) rfl
                  rw [hL] at q9; cases q9
              have hag := wi.pre h11
              by_cases hz : (er == 0) = true
              · rw [hz] at e5
                obtain rfl := V8 hz
                exact opTo_val (v := .bool (er == 0 && x.fits pg)) rfl (by simp [go_sem, Act.eval, e5, e8, hz]) ⟨(fun h => by cases h), rfl, wi.keep h11 (by decide) hag⟩
              · have hz' : (er == 0) = false := by simpa using hz
                rw [hz'] at e5
                exact opTo_val (v := .bool (er == 0 && x.fits pg)) rfl (by simp [go_sem, Act.eval, e5, hz']) ⟨(fun h => by cases h), rfl, wi.keep h11 (by decide) hag⟩
            | 10, _ =>
              refine steps_of rfl ?_
              intro L aq wq hL hd st wi
              obtain ⟨u1, e1, V1⟩ := st.val 1 _ _ rfl rfl (hd ⟨1, .data⟩ (by simp) rfl)
              obtain rfl : .agg (copyL ((d : Int), at')).toArray = u1 := V1.symm
              obtain ⟨u2, e2, V2⟩ := st.val 2 _ _ rfl rfl (hd ⟨2, .data⟩ (by simp) rfl)
              obtain rfl : .agg (pageCells pg) = u2 := V2.symm
              obtain ⟨u9, e9, V9⟩ := st.val 9 _ _ rfl rfl (hd ⟨9, .data⟩ (by simp) rfl)
              obtain rfl : .bool (er == 0 && x.fits pg) = u9 := V9.symm
              have h11 : L 11 = false := by
                cases h : L 11
                · rfl
                · have q10 := st.closed 11 _ rfl h ⟨10, .data⟩ (by simp) rfl
                  rw [hL] at q10; cases q10
              have hag := wi.pre h11
              exact opTo_val (v := .agg (fndCells ((d : Int), at') pg (er == 0 && x.fits pg))) rfl (ex_build_found rfl (eval_tmp e1) (eval_tmp e2) (eval_tmp e9) hlp) ⟨(fun h => by cases h), rfl, wi.keep h11 (by decide) hag⟩
            | 11, _ =>
              refine steps_of rfl ?_
              intro L aq wq hL hd st wi
              obtain ⟨u0, e0, V0⟩ := st.val 0 _ _ rfl rfl (hd ⟨0, .data⟩ (by simp) rfl)
              obtain rfl : .func (.yield l) #[] #[] = u0 := V0.symm
              obtain ⟨u10, e10, V10⟩ := st.val 10 _ _ rfl rfl (hd ⟨10, .data⟩ (by simp) rfl)
              obtain rfl : .agg (fndCells ((d : Int), at') pg (er == 0 && x.fits pg)) = u10 := V10.symm
              have hL12 : L 12 = false := by
                cases h : L 12
                · rfl
                · have := st.closed 12 _ rfl h ⟨11, .data⟩ (by simp) rfl
                  rw [hL] at this; cases this
              have hag := wi.pre hL
              obtain ⟨fn, tmps, assign, body, hy, hR'⟩ := HYK.out wq hag
              have hrun := (show (Instr.yield l #[.agg (fndCells ((d : Int), at') pg (er == 0 && x.fits pg))]).run Try.prog wq = .ok (.round l fn tmps assign body) wq from hy)
              clear hy
              generalize fndCells ((d : Int), at') pg (er == 0 && x.fits pg) = fc at e10 hrun
              refine opTo_round (l := l) (f := fn) (tmps := tmps) (assign := assign) (body := body) (w' := wq) rfl (by simp [go_sem, Act.eval, e0, e10, hrun]) ?_
              refine hR'.mono ?_
              rintro e w' (⟨rfl, hg3, C3, hj3, hC3⟩ | ⟨rfl, hg3, C3, hj3, hC3⟩)
              · exact ⟨_, rfl, (fun h => by cases h), ⟨_, rfl⟩, YieldW.done (r := true) hL12 rfl hag hg3 hj3 hC3⟩
              · exact ⟨_, rfl, (fun h => by cases h), ⟨_, rfl⟩, YieldW.done (r := false) hL12 rfl hag hg3 hj3 hC3⟩
            | 12, _ =>
              refine steps_of rfl ?_
              intro L aq wq hL hd st wi
              obtain ⟨u11, e11, V11⟩ := st.val 11 _ _ rfl rfl (hd ⟨11, .data⟩ (by simp) rfl)
              obtain ⟨r, rfl⟩ := V11
              exact opTo_val (v := .bool (!r)) rfl (by simp [go_sem, Act.eval, e11]) ⟨(fun h => by cases h), trivial, wi.neg (hd ⟨11, .data⟩ (by simp) rfl) (slotV_val rfl rfl e11)⟩
            | (i + 13), h => omega
          case hend5 =>
            intro vals w5 hV hW
            obtain ⟨r, W5, hr11, hr12, hg4, hg5, C', hj5, hC5⟩ := hW.at rfl
            have x12 : vals 12 = .bool (!r) := hr12 rfl
            have hA5 : Agrees All wr W5 := hA4.trans hg4
            have hgs := hA5.size
            have hF : RowKit.Hid (Agrees (fun b => R b ∨ b = g) W1 w5 ∧ ∀ b, C' b → ¬ (R b ∨ b = g) ∧ b < w5.heap.size) := by
              refine Lib.hid ⟨(HAW.out.trans hA5.weak).trans' hg5 (fun b hb hr hc => (HCW.out b hc).1 hr), fun b hb => ⟨fun hr => ?_, (hC5 b hb).1⟩⟩
              have h1 := HAW.out.size
              rcases (hC5 b hb).2 with h | h
              · exact (HCW.out b h).1 hr
              · rcases hr with hr | rfl
                · have := hR b hr; omega
                · omega
            have HJ5 := Lib.hid hj5
            have HNK := Lib.hid (show ((x.copies.take (i + 1)).filter P.lives).length = k + 1 by rw [HNX.out]; simp [hk])
            simp only [putAll, Act.put, List.setIfInBounds_toArray, List.set_cons_succ, List.set_cons_zero, x12]
            clear hV hr11 hr12 hg4 hg5 hC5 x12 hb0 hb4 hx0 hq0 hj5
            cases r
            · go_wp2_with fail
              refine bodyPost_ret (results_none rfl _ _ _) rfl ?_
              exact ⟨⟨_, rfl⟩, C', .inr ⟨k, hk1, HJ5.out⟩⟩
            · go_wp2_with fail
              refine ⟨⟨C', i + 1, by omega, by simp, Lib.hid ⟨?_, hF.out⟩⟩, by simp [intOf]; omega⟩
              rw [HNK.out]
              exact HJ5.out
    · obtain rfl : i = n := by omega
      go_wp2
      go_end0
      refine ⟨⟨_, rfl⟩, C1, .inl ?_⟩
      rw [← hn, List.take_length] at hj
      exact hj
end Suture
/-
  THE BAD COPIES OF A PAGE: fetch.Bad.
  Conditions: none beyond the pair's own reading.
-/
namespace Suture
open Go Go.RowKit Go.Proofs
attribute [local go_sem] Oper.semAt_some

def Pair.bads (P : Pair) (x : Ptr) : List (Int × Int) := (P.found x).filter fun c => !P.isRight x c
def Pair.bad (P : Pair) (x : Ptr) : List (Int × Int) := if x.right P.size then P.bads x else []

theorem isAgg_found : IsAgg Try.prog 96 259 := ⟨⟨_, Try.underlying96, rfl⟩, by kernel_rfl⟩
theorem fndCells_one (c : Int × Int) (p : List (BitVec 8)) (r : Bool) : ∀ u ∈ fndCells c p r, u.oneCell' = true := by
  intro u hu
  unfold fndCells fndL copyL at hu
  simp at hu
  rcases hu with rfl | rfl | ⟨b, _, rfl⟩ | rfl <;> rfl

def vBad1 (x : Ptr) (v : PV) : Nat → Value → Prop
  | 0, val => val = .agg x.cells
  | 1, val => val = .agg v.cells
  | 2, val => val = .int .i64 v.size
  | 3, val => val = .bool (x.right v.size)
  | 4, val => val = .bool (!(x.right v.size))
  | _, _ => True

set_option maxHeartbeats 2000000 in
set_option maxRecDepth 100000 in
theorem bad_calls (v : PV) (P : Pair) (x : Ptr) (hx : x.ok) (w : World) (hv : PairAt All w v P) (hsm : v.small) :
    Calls Try.prog 25 #[.agg v.cells, .agg x.cells] w fun e w' => ∃ u, e = .returned u ∧ w'.ownsRow w.heap.size 55 2 u (P.bad x).length ((P.bad x).map copyL).flatten ∧ Agrees All w w' := by
  refine (callsIn_wide (n := 0)).1 (callsIn_of_wp_marks Try.func25 rfl trivial (wpIn_wide.2 ?_) rfl)
  simp only [Try.ntmps25, List.size_toArray, List.length_cons, List.length_nil, Nat.reduceAdd, Nat.reduceSub, Array.replicate_succ, Array.replicate_zero, List.push_toArray, List.append_toArray, List.nil_append, List.cons_append]
  obtain ⟨W1, hW1⟩ : ∃ W1, w.alloc (.cells v.cells 40) = W1 := ⟨_, rfl⟩
  obtain ⟨W2, hW2⟩ : ∃ W2, W1.alloc (.cells x.cells 48) = W2 := ⟨_, rfl⟩
  obtain ⟨W3, hW3⟩ : ∃ W3, W2.alloc (.cells #[.slice none 0 0] 52) = W3 := ⟨_, rfl⟩
  have hs1 : W1.heap.size = w.heap.size + 1 := by rw [← hW1]; simp
  have hs2 : W2.heap.size = w.heap.size + 1 + 1 := by rw [← hW2]; simp [hs1]
  have hs3 : W3.heap.size = w.heap.size + 1 + 1 + 1 := by rw [← hW3]; simp [hs2]
  have hr0 : W3.heap[w.heap.size]? = some (.cells v.cells 40 (0, 0)) := by
    rw [← hW3, heap_alloc_old _ _ (by omega), ← hW2, heap_alloc_old _ _ (by omega), ← hW1]; exact World.alloc_heap_new w _
  have hr1 : W3.heap[w.heap.size + 1]? = some (.cells x.cells 48 (0, 0)) := by
    rw [← hW3, heap_alloc_old _ _ (by omega), ← hW2, ← hs1]; exact World.alloc_heap_new W1 _
  have hr2 : W3.heap[w.heap.size + 1 + 1]? = some (.cells #[.slice none 0 0] 52 (0, 0)) := by
    rw [← hW3, ← hs2]; exact World.alloc_heap_new W2 _
  have HA3 := Lib.hid (show Agrees All w W3 by rw [← hW3, ← hW2, ← hW1]; exact (((Agrees.refl _ w).alloc _).alloc _).alloc _)
  have HPS : RowKit.Hid (P.bad x = if x.right v.size then P.bads x else []) := Lib.hid (by unfold Pair.bad; rw [hv.size])
  have HV := Lib.hid hv
  have HR0 := Lib.hid hr0
  have HR1 := Lib.hid hr1
  have HR2 := Lib.hid hr2
  clear hr0 hr1 hr2 hv
  go_wp2_with fail
  obtain ⟨W4, hW4⟩ : ∃ W4, W3.drew = W4 := ⟨_, rfl⟩
  have hpr : W4.heap[w.heap.size]? = some (.cells v.cells 40 (0, 0)) := by rw [← hW4]; exact HR0.out
  have hxr : W4.heap[w.heap.size + 1]? = some (.cells x.cells 48 (0, 0)) := by rw [← hW4]; exact HR1.out
  have HR2 := Lib.hid (show W4.heap[w.heap.size + 1 + 1]? = some (.cells #[.slice none 0 0] 52 (0, 0)) by rw [← hW4]; exact HR2.out)
  have HA4 := Lib.hid (show Agrees All w W4 by rw [← hW4]; exact HA3.out.drew)
  refine wp_region_plan (by kernel_rfl) ?hok (by kernel_rfl) (vBad1 x v) (fun _ _ W => Agrees All W4 W) ?h0 (fun i hi => ?steps) ?hend
  case hok => kernel_rfl
  case h0 => exact fun vals => by rw [hW4]; exact Agrees.refl _ _
  case steps =>
    generalize w.heap.size + 1 = xb at *
    generalize w.heap.size = pb at *
    have hi' : i < 5 := hi
    match i, hi' with
    | 0, _ =>
      refine steps_of rfl ?_
      intro L aq wq hL hd st wi
      have o3 := st.outside (t := 3) rfl (v := .pointer (some ⟨xb, 0, none⟩)) rfl
      exact opTo_val (v := .agg x.cells) rfl (ex_load rfl isAgg_ptr xb 0 (eval_tmp o3) x.cells rfl (x.load ((wi.block _ (Array.getElem?_eq_some_iff.1 hxr).1 trivial).trans hxr))) ⟨(fun h => by cases h), rfl, wi⟩
    | 1, _ =>
      refine steps_of rfl ?_
      intro L aq wq hL hd st wi
      have o2 := st.outside (t := 2) rfl (v := .pointer (some ⟨pb, 0, none⟩)) rfl
      exact opTo_val (v := .agg v.cells) rfl (ex_load rfl isAgg_pair pb 0 (eval_tmp o2) v.cells rfl (v.load ((wi.block _ (Array.getElem?_eq_some_iff.1 hpr).1 trivial).trans hpr))) ⟨(fun h => by cases h), rfl, wi⟩
    | 2, _ =>
      refine steps_of rfl ?_
      intro L aq wq hL hd st wi
      obtain ⟨u1, e1, V1⟩ := st.val 1 _ _ rfl rfl (hd ⟨1, .data⟩ (by simp) rfl)
      obtain rfl : .agg v.cells = u1 := V1.symm
      refine opTo_call (w' := wq) (f := 40) (args := #[.agg v.cells]) rfl (by simp [go_sem, Act.eval, e1]) ((size_calls v hsm wq).mono ?_)
      rintro e w' ⟨rfl, hag⟩
      exact ⟨_, rfl, (fun h => by cases h), rfl, wi.trans hag⟩
    | 3, _ =>
      refine steps_of rfl ?_
      intro L aq wq hL hd st wi
      obtain ⟨u0, e0, V0⟩ := st.val 0 _ _ rfl rfl (hd ⟨0, .data⟩ (by simp) rfl)
      obtain rfl : .agg x.cells = u0 := V0.symm
      obtain ⟨u2, e2, V2⟩ := st.val 2 _ _ rfl rfl (hd ⟨2, .data⟩ (by simp) rfl)
      obtain rfl : .int .i64 v.size = u2 := V2.symm
      refine opTo_call (w' := wq) (f := 46) (args := #[.agg x.cells, .int .i64 v.size]) rfl (by simp [go_sem, Act.eval, e0, e2]) ((right_calls x hx v.size wq).mono ?_)
      rintro e w' ⟨rfl, hag⟩
      exact ⟨_, rfl, (fun h => by cases h), rfl, wi.trans hag⟩
    | 4, _ =>
      refine steps_of rfl ?_
      intro L aq wq hL hd st wi
      obtain ⟨u3, e3, V3⟩ := st.val 3 _ _ rfl rfl (hd ⟨3, .data⟩ (by simp) rfl)
      obtain rfl : .bool (x.right v.size) = u3 := V3.symm
      exact opTo_val (v := .bool (!(x.right v.size))) rfl (by simp [go_sem, Act.eval, e3]) ⟨(fun h => by cases h), rfl, wi⟩
    | (i + 5), h => omega
  case hend =>
    intro vals w' hV hW
    have x4 : vals 4 = .bool (!(x.right v.size)) := hV 4 _ _ rfl rfl
    simp only [putAll, Act.put, List.setIfInBounds_toArray, List.set_cons_succ, List.set_cons_zero, x4]
    have HAW := Lib.hid (HA4.out.trans hW)
    have HB0 := Lib.hid ((hW.block _ (Array.getElem?_eq_some_iff.1 hpr).1 trivial).trans hpr)
    have HB1 := Lib.hid ((hW.block _ (Array.getElem?_eq_some_iff.1 hxr).1 trivial).trans hxr)
    have HB2 := Lib.hid ((hW.block _ (Array.getElem?_eq_some_iff.1 HR2.out).1 trivial).trans HR2.out)
    clear hV hW x4 hpr hxr hW4 hW3 hW2 hW1 HR0 HR1 HR2 HA3 HA4
    generalize x.right v.size = r at *
    cases r
    · have d1 : w'.cell? ⟨w.heap.size + 1 + 1, 0, none⟩ = some (.slice none 0 0) := cell_of_row _ _ 0 _ _ _ HB2.out
      have d1f : w'.frozen? ⟨w.heap.size + 1 + 1, 0, none⟩ = false := frozen_of_row _ _ 0 _ _ HB2.out
      have hsc : w'.setCell ⟨w.heap.size + 1 + 1, 0, none⟩ (.slice none 0 0) = w' := setCell_self HB2.out
      go_wp2_with fail
      refine ⟨_, results_one rfl _ (b := w.heap.size + 1 + 1) rfl oneTwos d1, ?_⟩
      refine ⟨_, rfl, ?_, HAW.out⟩
      rw [HPS.out]
      exact World.ownsRow_nil _ _ _ _
    · go_wp2_with (first
        | (go_at_call 47; refine (fcopies_calls v x _).mono ?_; rintro e w3 ⟨rfl, hw3⟩)
        | (refine wpList_val rfl (ex_load (ty := 40) rfl isAgg_pair w.heap.size 0 rfl v.cells rfl (v.load HB0.out)) ?_)
        | (refine wpList_val rfl (ex_load (ty := 48) rfl isAgg_ptr (w.heap.size + 1) 0 rfl x.cells rfl (x.load HB1.out)) ?_))
      have hn3 : w3.heap.size = w'.heap.size + 1 + 1 := by rw [← hw3]; simp
      have hA3 : Agrees All w' w3 := by rw [← hw3]; exact ((Agrees.refl _ _).alloc _).alloc _
      have hbp : w3.heap[w'.heap.size]? = some (.cells v.cells 40 (0, 0)) := by rw [← hw3, heap_alloc_old _ _ (by simp)]; exact World.alloc_heap_new w' _
      have hbx : w3.heap[w'.heap.size + 1]? = some (.cells x.cells 48 (0, 0)) := by
        rw [← hw3]; have := World.alloc_heap_new (w'.alloc (.cells v.cells 40)) (.cells x.cells 48); rwa [World.size_alloc] at this
      have hAw3 := HAW.out.trans hA3
      have hL : ListS All w (w.heap.size + 1 + 1) 52 55 2 0 [] w3 (.slice none 0 0) :=
        ⟨hAw3, (hA3.block _ (Array.getElem?_eq_some_iff.1 HB2.out).1 trivial).trans HB2.out, World.ownsRow_nil _ _ _ _⟩
      have hbox2 := (Array.getElem?_eq_some_iff.1 HB2.out).1
      have hPV : PairAt (fun b => b < w.heap.size ∨ b = w'.heap.size ∨ b = w'.heap.size + 1) w3 v P := ((HV.out.bound).agrees hAw3 (fun _ _ => trivial)).mono (fun b hb => .inl hb)
      have hle : (P.found x).length ≤ 4 := Nat.le_trans (List.length_filter_le _ _) (copies_le x)
      obtain ⟨i0, hi0, hz0, hz1, hz2⟩ := info_parts infoTwo
      have hww := HAW.out.size
      have HPS := Lib.hid (show P.bad x = P.bads x by rw [HPS.out]; rfl)
      have HL := Lib.hid hL
      clear hL hw3
      generalize hbn : w'.heap.size = pb at *
      refine wp_rangeFunc_box rfl (Go.Proofs.enters_of Try.func56 (by kernel_rfl) rfl) (fcopies1_iter (fun b => b < w.heap.size ∨ b = pb ∨ b = pb + 1) (w.heap.size + 1 + 1) w3 pb (pb + 1) v P x hx hPV hbp hbx (.inr (.inl rfl)) (.inr (.inr rfl)) (fun b hb => by omega))
        (Agrees.refl _ _) (fun b hb => by omega) (by omega) (fun _ => rfl)
        (fun b => b = w.heap.size + 1 + 1) (fun b hb => ⟨by omega, by omega⟩)
        (fun k C W => ∃ u, C = (fun b => b = w.heap.size + 1 + 1 ∨ u.ownBlock = some b) ∧ k ≤ (P.found x).length ∧ ListS All w (w.heap.size + 1 + 1) 52 55 2 (((P.found x).take k).filter fun c => !P.isRight x c).length ((((P.found x).take k).filter fun c => !P.isRight x c).map copyL).flatten W u)
        (fun _ _ _ _ => False) ?stabI ?stabX ⟨.slice none 0 0, by funext b; simp [Value.ownBlock], by omega, by simpa using HL.out⟩
        (fun k b => { tmps := #[.agg v.cells, .agg x.cells, .pointer (some ⟨w.heap.size, 0, none⟩), .pointer (some ⟨w.heap.size + 1, 0, none⟩), .pointer (some ⟨w.heap.size + 1 + 1, 0, none⟩), .pointer (some ⟨b, 0, none⟩), vals 0, vals 1, vals 2, vals 3, .bool false, .agg v.cells, .agg x.cells, .func (.func 56) #[] #[.pointer (some ⟨pb + 1, 0, none⟩), .pointer (some ⟨pb, 0, none⟩)], .agg (fndCells ((P.found x).getD k (0, 0)) (P.has ((P.found x).getD k (0, 0))) (P.isRight x ((P.found x).getD k (0, 0)))), undef, undef, undef, undef, undef, undef, undef, undef, undef], defers := [] }) (fun k => fndCells ((P.found x).getD k (0, 0)) (P.has ((P.found x).getD k (0, 0))) (P.isRight x ((P.found x).getD k (0, 0)))) 96
        ?assign ?body ?done ?stop
      case stabI =>
        rintro k C W W' ⟨u, rfl, hk, h⟩ hag
        exact ⟨u, rfl, hk, h.sta hag (fun b hb => by
          rcases hb with hb | hb | hb
          · exact .inl (.inl hb)
          · exact .inl (.inr hb)
          · exact .inr (by omega))⟩
      case stabX => exact fun _ _ _ _ _ h _ => h
      case assign =>
        intro l k W K hk hK
        dsimp only at hK ⊢
        have hfs := fndCells_size ((P.found x).getD k (0, 0)) (P.has ((P.found x).getD k (0, 0))) (P.isRight x ((P.found x).getD k (0, 0))) (Disk.read_len _ (hPV.disk _).ok _)
        have hfo := fndCells_one ((P.found x).getD k (0, 0)) (P.has ((P.found x).getD k (0, 0))) (P.isRight x ((P.found x).getD k (0, 0)))
        generalize fndCells ((P.found x).getD k (0, 0)) (P.has ((P.found x).getD k (0, 0))) (P.isRight x ((P.found x).getD k (0, 0))) = fc at *
        have hrow := World.alloc_heap_new W (.cells zeroFnd 96)
        have HROW := Lib.hid hrow
        have HXS := Lib.hid hfs
        have HXO := Lib.hid hfo
        have HK := Lib.hid (hK W.heap.size ((W.alloc (.cells zeroFnd 96)).setRow W.heap.size fc) (((Agrees.refl All W).alloc _).setRow (.inr (Nat.le_refl _)) _) (Nat.le_refl _) (setRow_heap _ _ _ _ _ _ hrow))
        clear hK hrow hfs hfo
        rw [fold1]
        change Code.wpIn (Fence.wide.inRound l) 0 Try.prog _ _ ({ tmps := #[.agg v.cells, .agg x.cells, .pointer (some ⟨w.heap.size, 0, none⟩), .pointer (some ⟨w.heap.size + 1, 0, none⟩), .pointer (some ⟨w.heap.size + 1 + 1, 0, none⟩), undef, vals 0, vals 1, vals 2, vals 3, .bool false, .agg v.cells, .agg x.cells, .func (.func 56) #[] #[.pointer (some ⟨pb + 1, 0, none⟩), .pointer (some ⟨pb, 0, none⟩)], .agg (fc), undef, undef, undef, undef, undef, undef, undef, undef, undef], defers := [] } : Act) W
        gi_wp2_with (first | (refine wpListIn_val (fun _ => trivial) rfl rfl (ex_alloc rfl (.agg zeroFnd) zero_found) ?_; rw [show (Value.agg zeroFnd).cells = zeroFnd from rfl]) | (refine wpListIn_unit (fun _ => trivial) rfl rfl (ex_storeAll (ty := 96) rfl isAgg_found.2 W.heap.size rfl fc zeroFnd rfl HXS.out HROW.out zeroFnd_size HXO.out) ?_))
        exact HK.out
      case body =>
        rintro l k bx C W hk ⟨u, rfl, hkl, hI⟩ hCW hsz hbx hnb hlo
        have hsuc : (P.found x).take (k + 1) = (P.found x).take k ++ [(P.found x).getD k (0, 0)] := by
          rw [List.take_succ_eq_append_getElem hk, List.getD_eq_getElem?_getD, List.getElem?_eq_getElem hk]; rfl
        have hfl : ((P.found x).take (k + 1)).filter (fun c => !P.isRight x c) = ((P.found x).take k).filter (fun c => !P.isRight x c) ++ (if P.isRight x ((P.found x).getD k (0, 0)) then [] else [(P.found x).getD k (0, 0)]) := by
          rw [hsuc, List.filter_append, List.filter_cons, List.filter_nil]
          cases P.isRight x ((P.found x).getD k (0, 0)) <;> rfl
        have hln : (((P.found x).take k).filter (fun c => !P.isRight x c)).length ≤ 4 := Nat.le_trans (List.length_filter_le _ _) (by rw [List.length_take]; omega)
        have hpl : (P.has ((P.found x).getD k (0, 0))).length = 256 := Disk.read_len _ (hPV.disk _).ok _
        generalize P.has ((P.found x).getD k (0, 0)) = pg at *
        generalize hrt : P.isRight x ((P.found x).getD k (0, 0)) = rt at *
        generalize (P.found x).getD k (0, 0) = av at *
        generalize hys : ((P.found x).take k).filter (fun c => !P.isRight x c) = ys at *
        obtain ⟨c1, c2⟩ := av
        have d1 : W.cell? ⟨w.heap.size + 1 + 1, 0, none⟩ = some u := cell_of_row W _ 0 _ _ _ hI.row
        have f0 : W.cell? ⟨bx, 0, none⟩ = some (.int .i64 c1) := by rw [cell_of_row W _ 0 _ _ _ hbx]; rfl
        have f1 : W.cell? ⟨bx, 1, none⟩ = some (.int .i64 c2) := by rw [cell_of_row W _ 1 _ _ _ hbx]; rfl
        have f258 : W.cell? ⟨bx, 258, none⟩ = some (.bool rt) := by rw [cell_of_row W _ 258 _ _ _ hbx]; simp [fndCells, fndL, copyL, hpl]
        have hob : ∀ b, u.ownBlock = some b → w.heap.size + 1 + 1 + 1 ≤ b := fun b hb => (hI.own.lt b hb).1
        have HII := Lib.hid hI
        have HFL := Lib.hid hfl
        have HCW := Lib.hid hCW
        cases rt
        · obtain ⟨v', W1, hrun, hP⟩ := hI.push (P := Try.prog) (fun b _ hb => ⟨by omega, fun e => by have := hob b e; omega⟩) (t := 52) Try.underlying52 hi0 hz0 hz1 hz2 rfl (by decide) #[.int .i64 c1, .int .i64 c2] rfl (by intro u hu; simp at hu; rcases hu with rfl | rfl <;> rfl) (by simp only [maxLen]; omega) (by omega)
          have e1 : W1.cell? ⟨w.heap.size + 1 + 1, 0, none⟩ = some u := cell_of_row W1 _ 0 _ _ _ hP.row
          have e1f : W1.frozen? ⟨w.heap.size + 1 + 1, 0, none⟩ = false := frozen_of_row W1 _ 0 _ _ hP.row
          have hst : (store ⟨w.heap.size + 1 + 1, 0, none⟩ v').run Try.prog W1 = .ok () (W1.setCell ⟨w.heap.size + 1 + 1, 0, none⟩ v') := by
            rw [run_store _ _ _ _ _ hP.one, e1]
            simp [e1f]
          have HP := Lib.hid hP
          have HR := Lib.hid hrun
          have HO := Lib.hid hob
          clear hI hP hrun hfl hCW hob hbx hi0 hz0 hz1 hz2 hsuc
          gi_wp2_with (first
            | (refine wpListIn_val (fun _ => trivial) rfl rfl (ex_load1 (ty := 52) rfl oneTwos rfl d1) ?_)
            | (refine wpListIn_val (fun _ => trivial) rfl rfl (ex_buildSlice1 (T := 52) rfl rfl Try.underlying52 infoTwo (by decide) (by decide) rfl) ?_)
            | (refine wpListIn_val (fun _ => trivial) rfl rfl (ex_app rfl rfl rfl HR.out) ?_))
          refine ⟨HP.out.ag.setCell (.inl (fun h => h (.inl rfl))) _, _, ⟨v', rfl, by omega, ?_⟩, HP.out.blk⟩
          rw [HFL.out]
          simpa [copyL] using HP.out.list
        · clear hI hfl hCW hob hbx hi0 hz0 hz1 hz2 hsuc
          gi_wp2
          refine ⟨Agrees.refl _ _, _, ⟨u, rfl, by omega, ?_⟩, fun b hb => ⟨HCW.out b hb, .inl hb⟩⟩
          rw [HFL.out]
          simpa using HII.out
      case done =>
        rintro D C W hD ⟨u, rfl, _, h⟩ hK hCD
        rw [List.take_length] at h
        have d1 : W.cell? ⟨w.heap.size + 1 + 1, 0, none⟩ = some u := cell_of_row W _ 0 _ _ _ h.row
        have d1f : W.frozen? ⟨w.heap.size + 1 + 1, 0, none⟩ = false := frozen_of_row W _ 0 _ _ h.row
        have hsc : W.setCell ⟨w.heap.size + 1 + 1, 0, none⟩ u = W := setCell_self h.row
        have hst : (store ⟨w.heap.size + 1 + 1, 0, none⟩ u).run Try.prog W = .ok () W := by
          rw [run_store _ _ _ _ _ (own_one h.own), d1, hsc]
          simp [d1f]
        have HH := Lib.hid h
        have HK := Lib.hid hK
        have HD := Lib.hid (show w.heap.size + 1 + 1 + 1 ≤ D by omega)
        have HCD := Lib.hid hCD
        clear h hK hCD hi0 hz0 hz1 hz2 hsc
        go_wp2_with (refine wpList_val rfl (ex_load1 (ty := 52) rfl oneTwos rfl d1) ?_)
        refine ⟨by simp, .inl ⟨_, _, rfl, run_takeDeferred HK.out, ?_⟩⟩
        have hne : w.heap.size + 1 + 1 ≠ D := by have := HD.out; omega
        refine ⟨_, results_one rfl _ (b := w.heap.size + 1 + 1) rfl oneTwos (cell_of_row _ _ 0 _ _ _ ((World.putObj_heap_other hne).trans HH.out.row)), ?_⟩
        refine ⟨u, rfl, ?_, HH.out.ag.putObj (.inr (by have := HD.out; omega)) _⟩
        rw [HPS.out]
        exact ownsRow_put (ownsRow_base HH.out.own (show w.heap.size ≤ w.heap.size + 1 + 1 + 1 by omega)) (fun e => HCD.out (.inr e)) (.deferred none)
      case stop =>
        rintro D k c C W _ _ h
        exact h.elim
end Suture
/-
  A PAGE LOOKED UP: what fetch.look answers, in plain Lean.
  Conditions: none.
-/
namespace Suture
open Go Go.RowKit Go.Proofs

/-- what a look read, found bad and mended -/
structure Tal where
  r : Int
  b : Int
  m : Int
def Tal.cells (t : Tal) : Array Value := #[.int .i64 t.r, .int .i64 t.b, .int .i64 t.m]
/-- how many copies are looked at -/
def lookN (rt : Int × Int → Bool) (all : Bool) : List (Int × Int) → Nat
  | [] => 0
  | c :: l => if rt c && !all then 1 else lookN rt all l + 1
def Pair.seen (P : Pair) (x : Ptr) (all : Bool) : List (Int × Int) := (P.found x).take (lookN (P.isRight x) all (P.found x))
def Pair.seenBad (P : Pair) (x : Ptr) (all : Bool) : List (Int × Int) := (P.seen x all).filter fun c => !P.isRight x c
/-- the first right copy's page, of a list -/
def Pair.pageIn (P : Pair) (x : Ptr) (l : List (Int × Int)) : List (BitVec 8) := match l.find? (P.isRight x) with
  | some c => P.has c
  | none => noPage
/-- the bad copies written over, up to the first error -/
def mendAll (p : List (BitVec 8)) : List (Int × Int) → Pair → Int → Pair × Int × Int
  | [], P, m => (P, m, 0)
  | c :: l, P, m => if P.putE c.1.toNat c.2 = 0 then mendAll p l (P.put c.1.toNat c.2 p) (m + 1) else (P.put c.1.toNat c.2 p, m, P.putE c.1.toNat c.2)
def Pair.look (P : Pair) (x : Ptr) (all : Bool) : List (BitVec 8) × Pair × Tal × Int :=
  if P.asked x ≠ 0 then (noPage, P, ⟨0, 0, 0⟩, P.asked x)
  else
    let s := P.seen x all
    let b := P.seenBad x all
    if s.any (P.isRight x) = false then (noPage, P, ⟨s.length, b.length, 0⟩, 50)
    else
      let r := mendAll (P.pageIn x s) b P 0
      if r.2.2 = 0 then (P.pageIn x s, r.1, ⟨s.length, b.length, r.2.1⟩, 0) else (noPage, r.1, ⟨s.length, b.length, r.2.1⟩, r.2.2)
end Suture
/-
  WHAT A LOOK HANDS BACK: three cells and a temp.
  Conditions: none.
-/
namespace Suture
open Go Go.RowKit Go.Proofs

theorem isAgg_tally : IsAgg Try.prog 57 3 := ⟨⟨_, Try.underlying57, rfl⟩, by kernel_rfl⟩
theorem results_a3t1 {P : Program} {fn : Func} {p q r s : Tmp} {t1 t2 t3 : TypeId} {n1 n2 n3 : Nat} (h : fn.results = #[.cell p t1, .cell q t2, .cell r t3, .tmp s]) (tmps : Array Value) {W : World} {b c d : Nat} {v1 v2 v3 : Array Value} {x : Value}
    (hp : tmps.getD p undef = .pointer (some ⟨b, 0, none⟩)) (hq : tmps.getD q undef = .pointer (some ⟨c, 0, none⟩)) (hr : tmps.getD r undef = .pointer (some ⟨d, 0, none⟩))
    (hA : IsAgg P t1 n1) (h1 : v1.size = n1) (c1 : ∀ j, j < n1 → W.cell? ⟨b, 0 + j, none⟩ = v1[j]?) (hB : IsAgg P t2 n2) (h2 : v2.size = n2) (c2 : ∀ j, j < n2 → W.cell? ⟨c, 0 + j, none⟩ = v2[j]?)
    (hC : IsAgg P t3 n3) (h3 : v3.size = n3) (c3 : ∀ j, j < n3 → W.cell? ⟨d, 0 + j, none⟩ = v3[j]?) (hs : tmps.getD s undef = x) : (results fn tmps).run P W = .ok (.tuple #[.agg v1, .agg v2, .agg v3, x]) W := by
  have hp' : tmps[p]?.getD undef = .pointer (some ⟨b, 0, none⟩) := by simpa using hp
  have hq' : tmps[q]?.getD undef = .pointer (some ⟨c, 0, none⟩) := by simpa using hq
  have hr' : tmps[r]?.getD undef = .pointer (some ⟨d, 0, none⟩) := by simpa using hr
  have hs' : tmps[s]?.getD undef = x := by simpa using hs
  simp [results, h, hp', hq', hr', hs', asAddr, run_loadVar_agg hA b 0 v1 h1 c1, run_loadVar_agg hB c 0 v2 h2 c2, run_loadVar_agg hC d 0 v3 h3 c3]
end Suture
/-
  A LOOK'S WAYS OUT (the regions that draw their order): what they leave in the boxes.
  Conditions: none.
-/
namespace Suture
open Go Go.RowKit Go.Proofs

/-- the boxes of a look's answer while they are written: s6, s7 are the stores -/
structure RetW (W0 : World) (B6 B7 : Nat) (pg pg' z vs : Array Value) (s6 s7 : Nat) (L : Nat → Bool) (W : World) : Prop where
  ag : Agrees (fun b => b ≠ B6 ∧ b ≠ B7) W0 W
  r6 : W.heap[B6]? = some (.cells (if L s6 = true then pg' else pg) 32 (0, 0))
  r7 : W.heap[B7]? = some (.cells (if L s7 = true then vs else z) 40 (0, 0))
section
variable {W0 : World} {B6 B7 : Nat} {pg pg' z vs : Array Value} {s6 s7 : Nat} {L : Nat → Bool} {W : World}
theorem RetW.other (h : RetW W0 B6 B7 pg pg' z vs s6 s7 L W) {i : Nat} (h6 : s6 ≠ i) (h7 : s7 ≠ i) : RetW W0 B6 B7 pg pg' z vs s6 s7 (setL L i) W := by
  refine ⟨h.ag, ?_, ?_⟩
  · rw [h.r6]; unfold setL; rw [if_neg h6]
  · rw [h.r7]; unfold setL; rw [if_neg h7]
theorem RetW.row (h : RetW W0 B6 B7 pg pg' z vs s6 s7 L W) {b : Nat} {o : Obj} (hb : W0.heap[b]? = some o) (h6 : b ≠ B6) (h7 : b ≠ B7) : W.heap[b]? = some o :=
  (h.ag.block b (Array.getElem?_eq_some_iff.1 hb).1 ⟨h6, h7⟩).trans hb
theorem RetW.put6 (h : RetW W0 B6 B7 pg pg' z vs s6 s7 L W) (hne : B6 ≠ B7) (hs : s7 ≠ s6) : RetW W0 B6 B7 pg pg' z vs s6 s7 (setL L s6) (W.setRow B6 pg') := by
  refine ⟨h.ag.setRow (.inl (fun e => e.1 rfl)) _, ?_, ?_⟩
  · rw [setRow_heap _ _ _ _ _ _ h.r6]; simp [setL]
  · have : (W.setRow B6 pg').heap[B7]? = W.heap[B7]? := (((Agrees.refl (fun b => b ≠ B6) W).setRow (.inl (fun e => e rfl)) pg').block B7 (Array.getElem?_eq_some_iff.1 h.r7).1 (fun e => hne e.symm))
    rw [this, h.r7]; unfold setL; rw [if_neg hs]
theorem RetW.put7 (h : RetW W0 B6 B7 pg pg' z vs s6 s7 L W) (hne : B6 ≠ B7) (hs : s6 ≠ s7) : RetW W0 B6 B7 pg pg' z vs s6 s7 (setL L s7) (W.setRow B7 vs) := by
  refine ⟨h.ag.setRow (.inl (fun e => e.2 rfl)) _, ?_, ?_⟩
  · have : (W.setRow B7 vs).heap[B6]? = W.heap[B6]? := (((Agrees.refl (fun b => b ≠ B7) W).setRow (.inl (fun e => e rfl)) vs).block B6 (Array.getElem?_eq_some_iff.1 h.r6).1 hne)
    rw [this, h.r6]; unfold setL; rw [if_neg hs]
  · rw [setRow_heap _ _ _ _ _ _ h.r7]; simp [setL]
end
end Suture
/-
  PARTS OF A BODY, named by where they stand; what a plan leaves in a frame's slots (no program).
  Conditions: none beyond each theorem's own.
-/
namespace Suture
open Go Go.RowKit Go.Proofs

def cS (o : Option Code) : Option Code := Option.casesOn (motive := fun _ => Option Code) o none fun c => Code.casesOn (motive := fun _ => Option Code) c none (fun _ _ _ => none) (fun _ _ => none) (fun _ _ _ => none) (fun _ _ => none) (fun _ => none) (fun _ _ _ _ => none) (fun _ => none) (fun x => some x) (fun _ => none) (fun _ => none) none (fun _ => none)
def cL (o : Option Code) : Option Code := Option.casesOn (motive := fun _ => Option Code) o none fun c => Code.casesOn (motive := fun _ => Option Code) c none (fun _ _ _ => none) (fun x _ => some x) (fun _ _ _ => none) (fun _ _ => none) (fun _ => none) (fun _ _ _ _ => none) (fun _ => none) (fun _ => none) (fun _ => none) (fun _ => none) none (fun _ => none)
def cR (o : Option Code) : Option Code := Option.casesOn (motive := fun _ => Option Code) o none fun c => Code.casesOn (motive := fun _ => Option Code) c none (fun _ _ _ => none) (fun _ x => some x) (fun _ _ _ => none) (fun _ _ => none) (fun _ => none) (fun _ _ _ _ => none) (fun _ => none) (fun _ => none) (fun _ => none) (fun _ => none) none (fun _ => none)
def cT (o : Option Code) : Option Code := Option.casesOn (motive := fun _ => Option Code) o none fun c => Code.casesOn (motive := fun _ => Option Code) c none (fun _ _ _ => none) (fun _ _ => none) (fun _ x _ => some x) (fun _ _ => none) (fun _ => none) (fun _ _ _ _ => none) (fun _ => none) (fun _ => none) (fun _ => none) (fun _ => none) none (fun _ => none)
def cE (o : Option Code) : Option Code := Option.casesOn (motive := fun _ => Option Code) o none fun c => Code.casesOn (motive := fun _ => Option Code) c none (fun _ _ _ => none) (fun _ _ => none) (fun _ _ x => some x) (fun _ _ => none) (fun _ => none) (fun _ _ _ _ => none) (fun _ => none) (fun _ => none) (fun _ => none) (fun _ => none) none (fun _ => none)
def cB (o : Option Code) : Option Code := Option.casesOn (motive := fun _ => Option Code) o none fun c => Code.casesOn (motive := fun _ => Option Code) c none (fun _ _ _ => none) (fun _ _ => none) (fun _ _ _ => none) (fun _ x => some x) (fun _ => none) (fun _ _ _ _ => none) (fun _ => none) (fun _ => none) (fun _ => none) (fun _ => none) none (fun _ => none)
def cLp (o : Option Code) : Option Code := Option.casesOn (motive := fun _ => Option Code) o none fun c => Code.casesOn (motive := fun _ => Option Code) c none (fun _ _ _ => none) (fun _ _ => none) (fun _ _ _ => none) (fun _ _ => none) (fun x => some x) (fun _ _ _ _ => none) (fun _ => none) (fun _ => none) (fun _ => none) (fun _ => none) none (fun _ => none)
theorem part_eq {o : Option Code} {c d : Code} (h : o = some c) (k : o = some d) : c = d := Option.some.inj (h.symm.trans k)

section
variable {ops : Array Oper} {a0 : Act} {vals : Nat → Value}
theorem putAll_free {t : Tmp} (h : planFree ops t = true) : (putAll a0 vals 0 ops.toList).tmps[t]? = a0.tmps[t]? := by
  refine putAll_other vals t _ _ _ (fun o ho e => ?_)
  obtain ⟨i, hi⟩ := List.getElem?_of_mem ho
  have hi' : ops[i]? = some o := by simpa using hi
  have hil := (Array.getElem?_eq_some_iff.1 hi').1
  have := List.all_eq_true.1 h i (List.mem_range.2 hil)
  rw [hi'] at this
  simp [e] at this
theorem putAll_got (hok : planOk ops a0.tmps.size = true) {i : Nat} {o : Oper} {t : Tmp} (hi : ops[i]? = some o) (hd : o.dst = some t) : (putAll a0 vals 0 ops.toList).tmps[t]? = some (vals i) := by
  rw [putAll_at vals t ops.toList 0 a0 i o (by simpa using hi) hd (fun j o' hj hd' => planOk_ne hok (by simpa using hj) hd' hi hd) (planOk_size hok hi hd), Nat.zero_add]
end
/-- a frame's slot, read -/
theorem getD_of {tmps : Array Value} {t : Tmp} {v : Value} (h : tmps[t]? = some v) : tmps.getD t undef = v := by simp [h]
end Suture
/-
  A LOOK'S FOUR WAYS OUT: what each leaves in the boxes and in the last slot.
  Conditions: none.
-/
namespace Suture
open Go Go.RowKit Go.Proofs
attribute [local go_sem] Oper.semAt_some

theorem Tal.one (t : Tal) : ∀ u ∈ t.cells, u.oneCell' = true := by
  intro u hu
  simp [Tal.cells] at hu
  rcases hu with rfl | rfl | rfl <;> rfl

/-- the world behind a way out -/
structure OutW (W0 : World) (B6 B7 : Nat) (pg' z : Array Value) (W : World) : Prop where
  ag : Agrees (fun b => b ≠ B6 ∧ b ≠ B7) W0 W
  r6 : W.heap[B6]? = some (.cells pg' 32 (0, 0))
  r7 : W.heap[B7]? = some (.cells z 40 (0, 0))

def vWay3 (v : PV) (pg : List (BitVec 8)) (t : Tal) (e : Int) : Nat → Value → Prop
  | 0, val => val = .agg (pageCells pg)
  | 1, val => val = .agg v.cells
  | 2, val => val = .agg t.cells
  | 3, val => val = .int .i64 e
  | 4, val => val = undef
  | 5, val => val = undef
  | 6, val => val = undef
  | 7, val => val = .int .i64 e
  | _, _ => True
set_option maxHeartbeats 1000000 in
set_option maxRecDepth 100000 in
theorem way3 : ∀ c, cL (cT (cR (cR (cL (cS (cR Try.f44.body)))))) = some c → ∀ (Q : Exit → Act → World → Prop) (a0 : Act) (W : World) (B3 B6 B7 B8 : Nat) (v : PV) (pg : List (BitVec 8)) (t : Tal) (e : Int),
    a0.tmps.size = 88 → a0.tmps[3]? = some (.pointer (some ⟨B3, 0, none⟩)) → a0.tmps[6]? = some (.pointer (some ⟨B6, 0, none⟩)) → a0.tmps[7]? = some (.pointer (some ⟨B7, 0, none⟩)) → a0.tmps[8]? = some (.pointer (some ⟨B8, 0, none⟩)) → a0.tmps[10]? = some (.int .i64 e) →
    pg.length = 256 → W.heap[B3]? = some (.cells v.cells 40 (0, 0)) → W.heap[B6]? = some (.cells (pageCells pg) 32 (0, 0)) → W.heap[B7]? = some (.cells PV.zero.cells 40 (0, 0)) → W.heap[B8]? = some (.cells t.cells 57 (0, 0)) →
    B3 ≠ B6 → B3 ≠ B7 → B8 ≠ B6 → B8 ≠ B7 → B6 ≠ B7 →
    (∀ a' W', a'.defers = a0.defers → a'.tmps[6]? = a0.tmps[6]? → a'.tmps[7]? = a0.tmps[7]? → a'.tmps[8]? = a0.tmps[8]? → a'.tmps[9]? = some (.int .i64 e) → OutW W B6 B7 (pageCells pg) v.cells W' → Q .normal a' W') →
    c.wp Try.prog Q a0 W := by
  intro c hc
  have hd := part_eq hc rfl
  subst hd
  intro Q a0 W B3 B6 B7 B8 v pg t e hsz h3 h6 h7 h8 h10 hlp hb3' hb6 hb7 hb8' hn36 hn37 hn86 hn87 hn67 hQ
  obtain ⟨W0, hW0⟩ : ∃ W0, W.drew = W0 := ⟨_, rfl⟩
  have hb3 : W0.heap[B3]? = some (.cells v.cells 40 (0, 0)) := by rw [← hW0]; exact hb3'
  have hb8 : W0.heap[B8]? = some (.cells t.cells 57 (0, 0)) := by rw [← hW0]; exact hb8'
  refine wp_region_plan (by kernel_rfl) ?hok (by kernel_rfl) (vWay3 v pg t e) (fun L _ W => RetW W0 B6 B7 (pageCells pg) (pageCells pg) PV.zero.cells v.cells 4 5 L W) ?h0 (fun i hi => ?steps) ?hend
  case hok => rw [hsz]; kernel_rfl
  case h0 => exact fun vals => by rw [hW0]; exact ⟨Agrees.refl _ _, by rw [if_neg Bool.false_ne_true, ← hW0]; exact hb6, by rw [if_neg Bool.false_ne_true, ← hW0]; exact hb7⟩
  case steps =>
    have hi' : i < 8 := hi
    match i, hi' with
    | 0, _ =>
      refine steps_of rfl ?_
      intro L aq wq hL hd st wi
      have o6 := st.outside (t := 6) rfl (v := .pointer (some ⟨B6, 0, none⟩)) h6
      have hn4 : L 4 = false := by
        cases h : L 4
        · rfl
        · have := st.closed 4 _ rfl h ⟨0, .phase⟩ (by simp) rfl
          rw [hL] at this; cases this
      have hr6 := wi.r6
      rw [hn4, if_neg Bool.false_ne_true] at hr6
      exact opTo_val (v := .agg (pageCells pg)) rfl (ex_load rfl isAgg_page B6 0 (eval_tmp o6) (pageCells pg) (by rw [pageCells_size]; exact hlp) (fun j _ => by rw [Nat.zero_add]; exact cell_of_row _ _ _ _ _ _ hr6)) ⟨(fun h => by cases h), rfl, wi.other (by decide) (by decide)⟩
    | 1, _ =>
      refine steps_of rfl ?_
      intro L aq wq hL hd st wi
      have o3 := st.outside (t := 3) rfl (v := .pointer (some ⟨B3, 0, none⟩)) h3
      exact opTo_val (v := .agg v.cells) rfl (ex_load rfl isAgg_pair B3 0 (eval_tmp o3) v.cells rfl (v.load (wi.row hb3 hn36 hn37))) ⟨(fun h => by cases h), rfl, wi.other (by decide) (by decide)⟩
    | 2, _ =>
      refine steps_of rfl ?_
      intro L aq wq hL hd st wi
      have o8 := st.outside (t := 8) rfl (v := .pointer (some ⟨B8, 0, none⟩)) h8
      exact opTo_val (v := .agg t.cells) rfl (ex_load rfl isAgg_tally B8 0 (eval_tmp o8) t.cells rfl (fun j _ => by rw [Nat.zero_add]; exact cell_of_row _ _ _ _ _ _ (wi.row hb8 hn86 hn87))) ⟨(fun h => by cases h), rfl, wi.other (by decide) (by decide)⟩
    | 3, _ =>
      refine steps_of rfl ?_
      intro L aq wq hL hd st wi
      have o10 := st.outside (t := 10) rfl (v := .int .i64 e) h10
      exact opTo_val (v := .int .i64 e) rfl (ex_move (.inl rfl) (eval_tmp o10)) ⟨(fun h => by cases h), rfl, wi.other (by decide) (by decide)⟩
    | 4, _ =>
      refine steps_of rfl ?_
      intro L aq wq hL hd st wi
      have o6 := st.outside (t := 6) rfl (v := .pointer (some ⟨B6, 0, none⟩)) h6
      obtain ⟨u0, e0, V0⟩ := st.val 0 _ _ rfl rfl (hd ⟨0, .data⟩ (by simp) rfl)
      obtain rfl : .agg (pageCells pg) = u0 := V0.symm
      have hr6 := wi.r6
      rw [hL, if_neg Bool.false_ne_true] at hr6
      exact opTo_skip rfl (ex_storeAll (n := 256) rfl isAgg_page.2 B6 (eval_tmp o6) (pageCells pg) (pageCells pg) (eval_tmp e0) (by rw [pageCells_size]; exact hlp) hr6 (by rw [pageCells_size]; exact hlp) (pageCells_one _)) ⟨fun _ => rfl, rfl, wi.put6 hn67 (by decide)⟩
    | 5, _ =>
      refine steps_of rfl ?_
      intro L aq wq hL hd st wi
      have o7 := st.outside (t := 7) rfl (v := .pointer (some ⟨B7, 0, none⟩)) h7
      obtain ⟨u1, e1, V1⟩ := st.val 1 _ _ rfl rfl (hd ⟨1, .data⟩ (by simp) rfl)
      obtain rfl : .agg v.cells = u1 := V1.symm
      have hr7 := wi.r7
      rw [hL, if_neg Bool.false_ne_true] at hr7
      exact opTo_skip rfl (ex_storeAll rfl isAgg_pair.2 B7 (eval_tmp o7) v.cells PV.zero.cells (eval_tmp e1) rfl hr7 rfl v.one) ⟨fun _ => rfl, rfl, wi.put7 hn67 (by decide)⟩
    | 6, _ =>
      refine steps_of rfl ?_
      intro L aq wq hL hd st wi
      have o8 := st.outside (t := 8) rfl (v := .pointer (some ⟨B8, 0, none⟩)) h8
      obtain ⟨u2, e2, V2⟩ := st.val 2 _ _ rfl rfl (hd ⟨2, .data⟩ (by simp) rfl)
      obtain rfl : .agg t.cells = u2 := V2.symm
      have hr8 := wi.row hb8 hn86 hn87
      refine opTo_skip rfl (ex_storeAll rfl isAgg_tally.2 B8 (eval_tmp o8) t.cells t.cells (eval_tmp e2) rfl hr8 rfl t.one) ⟨fun _ => rfl, rfl, ?_⟩
      rw [setRow_self _ _ _ _ _ hr8]
      exact wi.other (by decide) (by decide)
    | 7, _ =>
      refine steps_of rfl ?_
      intro L aq wq hL hd st wi
      obtain ⟨u3, e3, V3⟩ := st.val 3 _ _ rfl rfl (hd ⟨3, .data⟩ (by simp) rfl)
      obtain rfl : .int .i64 e = u3 := V3.symm
      exact opTo_val (v := .int .i64 e) rfl (ex_move (.inr rfl) (eval_tmp e3)) ⟨(fun h => by cases h), rfl, wi.other (by decide) (by decide)⟩
    | (i + 8), h => omega
  case hend =>
    intro vals w' hV hW
    have x9 : vals 7 = .int .i64 e := hV 7 _ _ rfl rfl
    refine hQ _ _ (putAll_defers _ _ _ _) (putAll_free rfl) (putAll_free rfl) (putAll_free rfl) ((putAll_got (i := 7) (by rw [hsz]; kernel_rfl) rfl rfl).trans (congrArg some x9)) ⟨?_, ?_, ?_⟩
    · exact ((Agrees.refl (fun b => b ≠ B6 ∧ b ≠ B7) W).drew.trans (by rw [hW0]; exact hW.ag))
    · have := hW.r6; rwa [if_pos (by decide)] at this
    · have := hW.r7; rwa [if_pos (by decide)] at this

def vWay16 (v : PV) (pg : List (BitVec 8)) (t : Tal) : Nat → Value → Prop
  | 0, val => val = .agg (pageCells pg)
  | 1, val => val = .agg v.cells
  | 2, val => val = .agg t.cells
  | 3, val => val = undef
  | 4, val => val = undef
  | 5, val => val = undef
  | 6, val => val = .int .i64 50
  | _, _ => True
set_option maxHeartbeats 1000000 in
set_option maxRecDepth 100000 in
theorem way16 : ∀ c, cL (cT (cR (cL (cR (cR (cR (cR (cR (cS (cR Try.f44.body)))))))))) = some c → ∀ (Q : Exit → Act → World → Prop) (a0 : Act) (W : World) (B3 B6 B7 B8 : Nat) (v : PV) (pg : List (BitVec 8)) (t : Tal),
    a0.tmps.size = 88 → a0.tmps[3]? = some (.pointer (some ⟨B3, 0, none⟩)) → a0.tmps[6]? = some (.pointer (some ⟨B6, 0, none⟩)) → a0.tmps[7]? = some (.pointer (some ⟨B7, 0, none⟩)) → a0.tmps[8]? = some (.pointer (some ⟨B8, 0, none⟩)) →
    pg.length = 256 → W.heap[B3]? = some (.cells v.cells 40 (0, 0)) → W.heap[B6]? = some (.cells (pageCells pg) 32 (0, 0)) → W.heap[B7]? = some (.cells PV.zero.cells 40 (0, 0)) → W.heap[B8]? = some (.cells t.cells 57 (0, 0)) →
    B3 ≠ B6 → B3 ≠ B7 → B8 ≠ B6 → B8 ≠ B7 → B6 ≠ B7 →
    (∀ a' W', a'.defers = a0.defers → a'.tmps[6]? = a0.tmps[6]? → a'.tmps[7]? = a0.tmps[7]? → a'.tmps[8]? = a0.tmps[8]? → a'.tmps[9]? = some (.int .i64 50) → OutW W B6 B7 (pageCells pg) v.cells W' → Q .normal a' W') →
    c.wp Try.prog Q a0 W := by
  intro c hc
  have hd := part_eq hc rfl
  subst hd
  intro Q a0 W B3 B6 B7 B8 v pg t hsz h3 h6 h7 h8 hlp hb3' hb6 hb7 hb8' hn36 hn37 hn86 hn87 hn67 hQ
  obtain ⟨W0, hW0⟩ : ∃ W0, W.drew = W0 := ⟨_, rfl⟩
  have hb3 : W0.heap[B3]? = some (.cells v.cells 40 (0, 0)) := by rw [← hW0]; exact hb3'
  have hb8 : W0.heap[B8]? = some (.cells t.cells 57 (0, 0)) := by rw [← hW0]; exact hb8'
  refine wp_region_plan (by kernel_rfl) ?hok (by kernel_rfl) (vWay16 v pg t) (fun L _ W => RetW W0 B6 B7 (pageCells pg) (pageCells pg) PV.zero.cells v.cells 3 4 L W) ?h0 (fun i hi => ?steps) ?hend
  case hok => rw [hsz]; kernel_rfl
  case h0 => exact fun vals => by rw [hW0]; exact ⟨Agrees.refl _ _, by rw [if_neg Bool.false_ne_true, ← hW0]; exact hb6, by rw [if_neg Bool.false_ne_true, ← hW0]; exact hb7⟩
  case steps =>
    have hi' : i < 7 := hi
    match i, hi' with
    | 0, _ =>
      refine steps_of rfl ?_
      intro L aq wq hL hd st wi
      have o6 := st.outside (t := 6) rfl (v := .pointer (some ⟨B6, 0, none⟩)) h6
      have hn3 : L 3 = false := by
        cases h : L 3
        · rfl
        · have := st.closed 3 _ rfl h ⟨0, .phase⟩ (by simp) rfl
          rw [hL] at this; cases this
      have hr6 := wi.r6
      rw [hn3, if_neg Bool.false_ne_true] at hr6
      exact opTo_val (v := .agg (pageCells pg)) rfl (ex_load rfl isAgg_page B6 0 (eval_tmp o6) (pageCells pg) (by rw [pageCells_size]; exact hlp) (fun j _ => by rw [Nat.zero_add]; exact cell_of_row _ _ _ _ _ _ hr6)) ⟨(fun h => by cases h), rfl, wi.other (by decide) (by decide)⟩
    | 1, _ =>
      refine steps_of rfl ?_
      intro L aq wq hL hd st wi
      have o3 := st.outside (t := 3) rfl (v := .pointer (some ⟨B3, 0, none⟩)) h3
      exact opTo_val (v := .agg v.cells) rfl (ex_load rfl isAgg_pair B3 0 (eval_tmp o3) v.cells rfl (v.load (wi.row hb3 hn36 hn37))) ⟨(fun h => by cases h), rfl, wi.other (by decide) (by decide)⟩
    | 2, _ =>
      refine steps_of rfl ?_
      intro L aq wq hL hd st wi
      have o8 := st.outside (t := 8) rfl (v := .pointer (some ⟨B8, 0, none⟩)) h8
      exact opTo_val (v := .agg t.cells) rfl (ex_load rfl isAgg_tally B8 0 (eval_tmp o8) t.cells rfl (fun j _ => by rw [Nat.zero_add]; exact cell_of_row _ _ _ _ _ _ (wi.row hb8 hn86 hn87))) ⟨(fun h => by cases h), rfl, wi.other (by decide) (by decide)⟩
    | 3, _ =>
      refine steps_of rfl ?_
      intro L aq wq hL hd st wi
      have o6 := st.outside (t := 6) rfl (v := .pointer (some ⟨B6, 0, none⟩)) h6
      obtain ⟨u0, e0, V0⟩ := st.val 0 _ _ rfl rfl (hd ⟨0, .data⟩ (by simp) rfl)
      obtain rfl : .agg (pageCells pg) = u0 := V0.symm
      have hr6 := wi.r6
      rw [hL, if_neg Bool.false_ne_true] at hr6
      exact opTo_skip rfl (ex_storeAll (n := 256) rfl isAgg_page.2 B6 (eval_tmp o6) (pageCells pg) (pageCells pg) (eval_tmp e0) (by rw [pageCells_size]; exact hlp) hr6 (by rw [pageCells_size]; exact hlp) (pageCells_one _)) ⟨fun _ => rfl, rfl, wi.put6 hn67 (by decide)⟩
    | 4, _ =>
      refine steps_of rfl ?_
      intro L aq wq hL hd st wi
      have o7 := st.outside (t := 7) rfl (v := .pointer (some ⟨B7, 0, none⟩)) h7
      obtain ⟨u1, e1, V1⟩ := st.val 1 _ _ rfl rfl (hd ⟨1, .data⟩ (by simp) rfl)
      obtain rfl : .agg v.cells = u1 := V1.symm
      have hr7 := wi.r7
      rw [hL, if_neg Bool.false_ne_true] at hr7
      exact opTo_skip rfl (ex_storeAll rfl isAgg_pair.2 B7 (eval_tmp o7) v.cells PV.zero.cells (eval_tmp e1) rfl hr7 rfl v.one) ⟨fun _ => rfl, rfl, wi.put7 hn67 (by decide)⟩
    | 5, _ =>
      refine steps_of rfl ?_
      intro L aq wq hL hd st wi
      have o8 := st.outside (t := 8) rfl (v := .pointer (some ⟨B8, 0, none⟩)) h8
      obtain ⟨u2, e2, V2⟩ := st.val 2 _ _ rfl rfl (hd ⟨2, .data⟩ (by simp) rfl)
      obtain rfl : .agg t.cells = u2 := V2.symm
      have hr8 := wi.row hb8 hn86 hn87
      refine opTo_skip rfl (ex_storeAll rfl isAgg_tally.2 B8 (eval_tmp o8) t.cells t.cells (eval_tmp e2) rfl hr8 rfl t.one) ⟨fun _ => rfl, rfl, ?_⟩
      rw [setRow_self _ _ _ _ _ hr8]
      exact wi.other (by decide) (by decide)
    | 6, _ =>
      refine steps_of rfl ?_
      intro L aq wq hL hd st wi
      exact opTo_val (v := .int .i64 50) rfl (ex_move (.inr rfl) rfl) ⟨(fun h => by cases h), rfl, wi.other (by decide) (by decide)⟩
    | (i + 7), h => omega
  case hend =>
    intro vals w' hV hW
    have x9 : vals 6 = .int .i64 50 := hV 6 _ _ rfl rfl
    refine hQ _ _ (putAll_defers _ _ _ _) (putAll_free rfl) (putAll_free rfl) (putAll_free rfl) ((putAll_got (i := 6) (by rw [hsz]; kernel_rfl) rfl rfl).trans (congrArg some x9)) ⟨?_, ?_, ?_⟩
    · exact ((Agrees.refl (fun b => b ≠ B6 ∧ b ≠ B7) W).drew.trans (by rw [hW0]; exact hW.ag))
    · have := hW.r6; rwa [if_pos (by decide)] at this
    · have := hW.r7; rwa [if_pos (by decide)] at this

def vWay22 (v : PV) (_pg : List (BitVec 8)) (t : Tal) (e : Int) : Nat → Value → Prop
  | 0, val => val = .agg (pageCells noPage)
  | 1, val => val = .agg v.cells
  | 2, val => val = .agg t.cells
  | 3, val => val = .int .i64 e
  | 4, val => val = undef
  | 5, val => val = undef
  | 6, val => val = undef
  | 7, val => val = .int .i64 e
  | _, _ => True
set_option maxHeartbeats 1000000 in
set_option maxRecDepth 100000 in
theorem way22 : ∀ c, cL (cT (cR (cR (cL (cR (cB (cL (cR (cR (cLp (cB (cR (cL (cR (cR (cR (cR (cR (cR (cS (cR Try.f44.body))))))))))))))))))))) = some c → ∀ (Q : Exit → Act → World → Prop) (a0 : Act) (W : World) (B3 B6 B7 B8 : Nat) (v : PV) (pg : List (BitVec 8)) (t : Tal) (e : Int),
    a0.tmps.size = 88 → a0.tmps[3]? = some (.pointer (some ⟨B3, 0, none⟩)) → a0.tmps[6]? = some (.pointer (some ⟨B6, 0, none⟩)) → a0.tmps[7]? = some (.pointer (some ⟨B7, 0, none⟩)) → a0.tmps[8]? = some (.pointer (some ⟨B8, 0, none⟩)) → a0.tmps[9]? = some (.int .i64 e) →
    pg.length = 256 → W.heap[B3]? = some (.cells v.cells 40 (0, 0)) → W.heap[B6]? = some (.cells (pageCells pg) 32 (0, 0)) → W.heap[B7]? = some (.cells PV.zero.cells 40 (0, 0)) → W.heap[B8]? = some (.cells t.cells 57 (0, 0)) →
    B3 ≠ B6 → B3 ≠ B7 → B8 ≠ B6 → B8 ≠ B7 → B6 ≠ B7 →
    (∀ a' W', a'.defers = a0.defers → a'.tmps[6]? = a0.tmps[6]? → a'.tmps[7]? = a0.tmps[7]? → a'.tmps[8]? = a0.tmps[8]? → a'.tmps[9]? = some (.int .i64 e) → OutW W B6 B7 (pageCells noPage) v.cells W' → Q .normal a' W') →
    c.wp Try.prog Q a0 W := by
  intro c hc
  have hd := part_eq hc rfl
  subst hd
  intro Q a0 W B3 B6 B7 B8 v pg t e hsz h3 h6 h7 h8 h9 hlp hb3' hb6 hb7 hb8' hn36 hn37 hn86 hn87 hn67 hQ
  obtain ⟨W0, hW0⟩ : ∃ W0, W.drew = W0 := ⟨_, rfl⟩
  have hb3 : W0.heap[B3]? = some (.cells v.cells 40 (0, 0)) := by rw [← hW0]; exact hb3'
  have hb8 : W0.heap[B8]? = some (.cells t.cells 57 (0, 0)) := by rw [← hW0]; exact hb8'
  refine wp_region_plan (by kernel_rfl) ?hok (by kernel_rfl) (vWay22 v pg t e) (fun L _ W => RetW W0 B6 B7 (pageCells pg) (pageCells noPage) PV.zero.cells v.cells 4 5 L W) ?h0 (fun i hi => ?steps) ?hend
  case hok => rw [hsz]; kernel_rfl
  case h0 => exact fun vals => by rw [hW0]; exact ⟨Agrees.refl _ _, by rw [if_neg Bool.false_ne_true, ← hW0]; exact hb6, by rw [if_neg Bool.false_ne_true, ← hW0]; exact hb7⟩
  case steps =>
    have hi' : i < 8 := hi
    match i, hi' with
    | 0, _ =>
      refine steps_of rfl ?_
      intro L aq wq hL hd st wi
      exact opTo_val (v := .agg (pageCells noPage)) rfl (ex_build0 rfl) ⟨(fun h => by cases h), rfl, wi.other (by decide) (by decide)⟩
    | 1, _ =>
      refine steps_of rfl ?_
      intro L aq wq hL hd st wi
      have o3 := st.outside (t := 3) rfl (v := .pointer (some ⟨B3, 0, none⟩)) h3
      exact opTo_val (v := .agg v.cells) rfl (ex_load rfl isAgg_pair B3 0 (eval_tmp o3) v.cells rfl (v.load (wi.row hb3 hn36 hn37))) ⟨(fun h => by cases h), rfl, wi.other (by decide) (by decide)⟩
    | 2, _ =>
      refine steps_of rfl ?_
      intro L aq wq hL hd st wi
      have o8 := st.outside (t := 8) rfl (v := .pointer (some ⟨B8, 0, none⟩)) h8
      exact opTo_val (v := .agg t.cells) rfl (ex_load rfl isAgg_tally B8 0 (eval_tmp o8) t.cells rfl (fun j _ => by rw [Nat.zero_add]; exact cell_of_row _ _ _ _ _ _ (wi.row hb8 hn86 hn87))) ⟨(fun h => by cases h), rfl, wi.other (by decide) (by decide)⟩
    | 3, _ =>
      refine steps_of rfl ?_
      intro L aq wq hL hd st wi
      have o9 := st.before (by rw [hsz]; kernel_rfl) hL (k := 7) rfl rfl (e := ⟨3, .data⟩) (by simp) rfl rfl (v := .int .i64 e) h9
      exact opTo_val (v := .int .i64 e) rfl (ex_move (.inl rfl) (eval_tmp o9)) ⟨(fun h => by cases h), rfl, wi.other (by decide) (by decide)⟩
    | 4, _ =>
      refine steps_of rfl ?_
      intro L aq wq hL hd st wi
      have o6 := st.outside (t := 6) rfl (v := .pointer (some ⟨B6, 0, none⟩)) h6
      obtain ⟨u0, e0, V0⟩ := st.val 0 _ _ rfl rfl (hd ⟨0, .data⟩ (by simp) rfl)
      obtain rfl : .agg (pageCells noPage) = u0 := V0.symm
      have hr6 := wi.r6
      rw [hL, if_neg Bool.false_ne_true] at hr6
      exact opTo_skip rfl (ex_storeAll (n := 256) rfl isAgg_page.2 B6 (eval_tmp o6) (pageCells noPage) (pageCells pg) (eval_tmp e0) (by rw [pageCells_size]; exact noPage_len) hr6 (by rw [pageCells_size]; exact hlp) (pageCells_one _)) ⟨fun _ => rfl, rfl, wi.put6 hn67 (by decide)⟩
    | 5, _ =>
      refine steps_of rfl ?_
      intro L aq wq hL hd st wi
      have o7 := st.outside (t := 7) rfl (v := .pointer (some ⟨B7, 0, none⟩)) h7
      obtain ⟨u1, e1, V1⟩ := st.val 1 _ _ rfl rfl (hd ⟨1, .data⟩ (by simp) rfl)
      obtain rfl : .agg v.cells = u1 := V1.symm
      have hr7 := wi.r7
      rw [hL, if_neg Bool.false_ne_true] at hr7
      exact opTo_skip rfl (ex_storeAll rfl isAgg_pair.2 B7 (eval_tmp o7) v.cells PV.zero.cells (eval_tmp e1) rfl hr7 rfl v.one) ⟨fun _ => rfl, rfl, wi.put7 hn67 (by decide)⟩
    | 6, _ =>
      refine steps_of rfl ?_
      intro L aq wq hL hd st wi
      have o8 := st.outside (t := 8) rfl (v := .pointer (some ⟨B8, 0, none⟩)) h8
      obtain ⟨u2, e2, V2⟩ := st.val 2 _ _ rfl rfl (hd ⟨2, .data⟩ (by simp) rfl)
      obtain rfl : .agg t.cells = u2 := V2.symm
      have hr8 := wi.row hb8 hn86 hn87
      refine opTo_skip rfl (ex_storeAll rfl isAgg_tally.2 B8 (eval_tmp o8) t.cells t.cells (eval_tmp e2) rfl hr8 rfl t.one) ⟨fun _ => rfl, rfl, ?_⟩
      rw [setRow_self _ _ _ _ _ hr8]
      exact wi.other (by decide) (by decide)
    | 7, _ =>
      refine steps_of rfl ?_
      intro L aq wq hL hd st wi
      obtain ⟨u3, e3, V3⟩ := st.val 3 _ _ rfl rfl (hd ⟨3, .data⟩ (by simp) rfl)
      obtain rfl : .int .i64 e = u3 := V3.symm
      exact opTo_val (v := .int .i64 e) rfl (ex_move (.inr rfl) (eval_tmp e3)) ⟨(fun h => by cases h), rfl, wi.other (by decide) (by decide)⟩
    | (i + 8), h => omega
  case hend =>
    intro vals w' hV hW
    have x9 : vals 7 = .int .i64 e := hV 7 _ _ rfl rfl
    refine hQ _ _ (putAll_defers _ _ _ _) (putAll_free rfl) (putAll_free rfl) (putAll_free rfl) ((putAll_got (i := 7) (by rw [hsz]; kernel_rfl) rfl rfl).trans (congrArg some x9)) ⟨?_, ?_, ?_⟩
    · exact ((Agrees.refl (fun b => b ≠ B6 ∧ b ≠ B7) W).drew.trans (by rw [hW0]; exact hW.ag))
    · have := hW.r6; rwa [if_pos (by decide)] at this
    · have := hW.r7; rwa [if_pos (by decide)] at this

def vWay25 (v : PV) (pg : List (BitVec 8)) (t : Tal) : Nat → Value → Prop
  | 0, val => val = .agg (pageCells pg)
  | 1, val => val = .agg v.cells
  | 2, val => val = .agg t.cells
  | 3, val => val = undef
  | 4, val => val = undef
  | 5, val => val = undef
  | 6, val => val = .int .i64 0
  | _, _ => True
set_option maxHeartbeats 1000000 in
set_option maxRecDepth 100000 in
theorem way25 : ∀ c, cL (cR (cR (cR (cR (cR (cR (cR (cS (cR Try.f44.body))))))))) = some c → ∀ (Q : Exit → Act → World → Prop) (a0 : Act) (W : World) (B3 B6 B7 B8 : Nat) (v : PV) (pg : List (BitVec 8)) (t : Tal),
    a0.tmps.size = 88 → a0.tmps[3]? = some (.pointer (some ⟨B3, 0, none⟩)) → a0.tmps[6]? = some (.pointer (some ⟨B6, 0, none⟩)) → a0.tmps[7]? = some (.pointer (some ⟨B7, 0, none⟩)) → a0.tmps[8]? = some (.pointer (some ⟨B8, 0, none⟩)) →
    pg.length = 256 → W.heap[B3]? = some (.cells v.cells 40 (0, 0)) → W.heap[B6]? = some (.cells (pageCells pg) 32 (0, 0)) → W.heap[B7]? = some (.cells PV.zero.cells 40 (0, 0)) → W.heap[B8]? = some (.cells t.cells 57 (0, 0)) →
    B3 ≠ B6 → B3 ≠ B7 → B8 ≠ B6 → B8 ≠ B7 → B6 ≠ B7 →
    (∀ a' W', a'.defers = a0.defers → a'.tmps[6]? = a0.tmps[6]? → a'.tmps[7]? = a0.tmps[7]? → a'.tmps[8]? = a0.tmps[8]? → a'.tmps[9]? = some (.int .i64 0) → OutW W B6 B7 (pageCells pg) v.cells W' → Q .normal a' W') →
    c.wp Try.prog Q a0 W := by
  intro c hc
  have hd := part_eq hc rfl
  subst hd
  intro Q a0 W B3 B6 B7 B8 v pg t hsz h3 h6 h7 h8 hlp hb3' hb6 hb7 hb8' hn36 hn37 hn86 hn87 hn67 hQ
  obtain ⟨W0, hW0⟩ : ∃ W0, W.drew = W0 := ⟨_, rfl⟩
  have hb3 : W0.heap[B3]? = some (.cells v.cells 40 (0, 0)) := by rw [← hW0]; exact hb3'
  have hb8 : W0.heap[B8]? = some (.cells t.cells 57 (0, 0)) := by rw [← hW0]; exact hb8'
  refine wp_region_plan (by kernel_rfl) ?hok (by kernel_rfl) (vWay25 v pg t) (fun L _ W => RetW W0 B6 B7 (pageCells pg) (pageCells pg) PV.zero.cells v.cells 3 4 L W) ?h0 (fun i hi => ?steps) ?hend
  case hok => rw [hsz]; kernel_rfl
  case h0 => exact fun vals => by rw [hW0]; exact ⟨Agrees.refl _ _, by rw [if_neg Bool.false_ne_true, ← hW0]; exact hb6, by rw [if_neg Bool.false_ne_true, ← hW0]; exact hb7⟩
  case steps =>
    have hi' : i < 7 := hi
    match i, hi' with
    | 0, _ =>
      refine steps_of rfl ?_
      intro L aq wq hL hd st wi
      have o6 := st.outside (t := 6) rfl (v := .pointer (some ⟨B6, 0, none⟩)) h6
      have hn3 : L 3 = false := by
        cases h : L 3
        · rfl
        · have := st.closed 3 _ rfl h ⟨0, .phase⟩ (by simp) rfl
          rw [hL] at this; cases this
      have hr6 := wi.r6
      rw [hn3, if_neg Bool.false_ne_true] at hr6
      exact opTo_val (v := .agg (pageCells pg)) rfl (ex_load rfl isAgg_page B6 0 (eval_tmp o6) (pageCells pg) (by rw [pageCells_size]; exact hlp) (fun j _ => by rw [Nat.zero_add]; exact cell_of_row _ _ _ _ _ _ hr6)) ⟨(fun h => by cases h), rfl, wi.other (by decide) (by decide)⟩
    | 1, _ =>
      refine steps_of rfl ?_
      intro L aq wq hL hd st wi
      have o3 := st.outside (t := 3) rfl (v := .pointer (some ⟨B3, 0, none⟩)) h3
      exact opTo_val (v := .agg v.cells) rfl (ex_load rfl isAgg_pair B3 0 (eval_tmp o3) v.cells rfl (v.load (wi.row hb3 hn36 hn37))) ⟨(fun h => by cases h), rfl, wi.other (by decide) (by decide)⟩
    | 2, _ =>
      refine steps_of rfl ?_
      intro L aq wq hL hd st wi
      have o8 := st.outside (t := 8) rfl (v := .pointer (some ⟨B8, 0, none⟩)) h8
      exact opTo_val (v := .agg t.cells) rfl (ex_load rfl isAgg_tally B8 0 (eval_tmp o8) t.cells rfl (fun j _ => by rw [Nat.zero_add]; exact cell_of_row _ _ _ _ _ _ (wi.row hb8 hn86 hn87))) ⟨(fun h => by cases h), rfl, wi.other (by decide) (by decide)⟩
    | 3, _ =>
      refine steps_of rfl ?_
      intro L aq wq hL hd st wi
      have o6 := st.outside (t := 6) rfl (v := .pointer (some ⟨B6, 0, none⟩)) h6
      obtain ⟨u0, e0, V0⟩ := st.val 0 _ _ rfl rfl (hd ⟨0, .data⟩ (by simp) rfl)
      obtain rfl : .agg (pageCells pg) = u0 := V0.symm
      have hr6 := wi.r6
      rw [hL, if_neg Bool.false_ne_true] at hr6
      exact opTo_skip rfl (ex_storeAll (n := 256) rfl isAgg_page.2 B6 (eval_tmp o6) (pageCells pg) (pageCells pg) (eval_tmp e0) (by rw [pageCells_size]; exact hlp) hr6 (by rw [pageCells_size]; exact hlp) (pageCells_one _)) ⟨fun _ => rfl, rfl, wi.put6 hn67 (by decide)⟩
    | 4, _ =>
      refine steps_of rfl ?_
      intro L aq wq hL hd st wi
      have o7 := st.outside (t := 7) rfl (v := .pointer (some ⟨B7, 0, none⟩)) h7
      obtain ⟨u1, e1, V1⟩ := st.val 1 _ _ rfl rfl (hd ⟨1, .data⟩ (by simp) rfl)
      obtain rfl : .agg v.cells = u1 := V1.symm
      have hr7 := wi.r7
      rw [hL, if_neg Bool.false_ne_true] at hr7
      exact opTo_skip rfl (ex_storeAll rfl isAgg_pair.2 B7 (eval_tmp o7) v.cells PV.zero.cells (eval_tmp e1) rfl hr7 rfl v.one) ⟨fun _ => rfl, rfl, wi.put7 hn67 (by decide)⟩
    | 5, _ =>
      refine steps_of rfl ?_
      intro L aq wq hL hd st wi
      have o8 := st.outside (t := 8) rfl (v := .pointer (some ⟨B8, 0, none⟩)) h8
      obtain ⟨u2, e2, V2⟩ := st.val 2 _ _ rfl rfl (hd ⟨2, .data⟩ (by simp) rfl)
      obtain rfl : .agg t.cells = u2 := V2.symm
      have hr8 := wi.row hb8 hn86 hn87
      refine opTo_skip rfl (ex_storeAll rfl isAgg_tally.2 B8 (eval_tmp o8) t.cells t.cells (eval_tmp e2) rfl hr8 rfl t.one) ⟨fun _ => rfl, rfl, ?_⟩
      rw [setRow_self _ _ _ _ _ hr8]
      exact wi.other (by decide) (by decide)
    | 6, _ =>
      refine steps_of rfl ?_
      intro L aq wq hL hd st wi
      exact opTo_val (v := .int .i64 0) rfl (ex_move (.inr rfl) rfl) ⟨(fun h => by cases h), rfl, wi.other (by decide) (by decide)⟩
    | (i + 7), h => omega
  case hend =>
    intro vals w' hV hW
    have x9 : vals 6 = .int .i64 0 := hV 6 _ _ rfl rfl
    refine hQ _ _ (putAll_defers _ _ _ _) (putAll_free rfl) (putAll_free rfl) (putAll_free rfl) ((putAll_got (i := 6) (by rw [hsz]; kernel_rfl) rfl rfl).trans (congrArg some x9)) ⟨?_, ?_, ?_⟩
    · exact ((Agrees.refl (fun b => b ≠ B6 ∧ b ≠ B7) W).drew.trans (by rw [hW0]; exact hW.ag))
    · have := hW.r6; rwa [if_pos (by decide)] at this
    · have := hW.r7; rwa [if_pos (by decide)] at this
end Suture
