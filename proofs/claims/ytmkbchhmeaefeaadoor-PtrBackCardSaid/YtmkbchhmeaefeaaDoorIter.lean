/-
  A RANGE OVER A FUNCTION, BY BLOCKS (no program): an iterator's contract 'IterAt', and the law for the statement.
  An iterator keeps its caller's blocks (the set C) and all below n₀; a round keeps all that is not its caller's.
  Conditions: none beyond each theorem's own.
-/
import Derived.RangeFuncNested
import Derived.Shelf.Abstract
import Derived.RangeFuncBound
import Derived.RangeFuncCalls
import Derived.RangeFuncLeaves
import Derived.WalkKit
import Derived.OwnWalkIn
import Derived.TacticsInMore
import Derived.LoopNIn
import Derived.LoopIn
namespace Suture
open Go Go.RowKit

/-- the blocks of R lie as they lay; the streams too; nothing has gone -/
structure Agrees (R : Nat → Prop) (W W' : World) : Prop where
  os : W'.os = W.os
  tape : W'.tape = W.tape
  output : W'.output = W.output
  size : W.heap.size ≤ W'.heap.size
  block : ∀ b, b < W.heap.size → R b → W'.heap[b]? = W.heap[b]?

def All : Nat → Prop := fun _ => True

theorem Agrees.refl (R : Nat → Prop) (W : World) : Agrees R W W := ⟨rfl, rfl, rfl, Nat.le_refl _, fun _ _ _ => rfl⟩
theorem Agrees.trans {R : Nat → Prop} {A B C : World} (h : Agrees R A B) (k : Agrees R B C) : Agrees R A C :=
  ⟨k.os.trans h.os, k.tape.trans h.tape, k.output.trans h.output, Nat.le_trans h.size k.size,
    fun b hb hr => (k.block b (Nat.lt_of_lt_of_le hb h.size) hr).trans (h.block b hb hr)⟩
theorem Agrees.mono {R R' : Nat → Prop} {A B : World} (h : Agrees R A B) (hr : ∀ b, b < A.heap.size → R' b → R b) : Agrees R' A B :=
  ⟨h.os, h.tape, h.output, h.size, fun b hb hb' => h.block b hb (hr b hb hb')⟩
theorem Agrees.weak {R : Nat → Prop} {A B : World} (h : Agrees All A B) : Agrees R A B := h.mono fun _ _ _ => trivial
theorem Agrees.trans' {R S : Nat → Prop} {A B C : World} (h : Agrees R A B) (k : Agrees S B C) (hs : ∀ b, b < A.heap.size → R b → S b) : Agrees R A C :=
  ⟨k.os.trans h.os, k.tape.trans h.tape, k.output.trans h.output, Nat.le_trans h.size k.size,
    fun b hb hr => (k.block b (Nat.lt_of_lt_of_le hb h.size) (hs b hb hr)).trans (h.block b hb hr)⟩
theorem Agrees.alloc {R : Nat → Prop} {A W : World} (h : Agrees R A W) (o : Obj) : Agrees R A (W.alloc o) :=
  ⟨h.os, h.tape, h.output, by have := h.size; simp; omega, fun b hb hr => by
    have := h.size
    exact (Below.heap_alloc W o b (by omega)).trans (h.block b hb hr)⟩
theorem Agrees.drew {R : Nat → Prop} {A W : World} (h : Agrees R A W) : Agrees R A W.drew := ⟨h.os, h.tape, h.output, h.size, h.block⟩
theorem Agrees.setCell {R : Nat → Prop} {A W : World} (h : Agrees R A W) {p : Addr} (hp : ¬ R p.block ∨ A.heap.size ≤ p.block) (u : Value) : Agrees R A (W.setCell p u) :=
  ⟨h.os, h.tape, h.output, by have := h.size; simpa [World.setCell] using this, fun b hb hr => by
    refine (Below.heap_setCell W p u b (fun e => ?_)).trans (h.block b hb hr)
    subst e
    rcases hp with hp | hp
    · exact hp hr
    · omega⟩
theorem Agrees.putObj {R : Nat → Prop} {A W : World} (h : Agrees R A W) {p : Nat} (hp : ¬ R p ∨ A.heap.size ≤ p) (o : Obj) : Agrees R A (W.putObj p o) :=
  ⟨h.os, h.tape, h.output, by have := h.size; simpa using this, fun b hb hr => by
    refine (World.putObj_heap_other (fun e => ?_)).trans (h.block b hb hr)
    subst e
    rcases hp with hp | hp
    · exact hp hr
    · omega⟩
theorem Agrees.below {R : Nat → Prop} {A B : World} {n : Nat} (h : Agrees R A B) (hr : ∀ b, b < n → R b) (hn : n ≤ A.heap.size) : Below n A B :=
  ⟨h.os, h.tape, h.output, h.size, fun b hb => h.block b (by omega) (hr b hb)⟩
theorem agrees_of_below {A B : World} {n : Nat} (h : Below n A B) : Agrees (fun b => b < n) A B :=
  ⟨h.os, h.tape, h.output, h.size, fun b _ hb => h.block b hb⟩
theorem agrees_of_below_all {A B : World} (h : Below A.heap.size A B) : Agrees All A B :=
  ⟨h.os, h.tape, h.output, h.size, fun b hb _ => h.block b hb⟩
theorem Agrees.cell {R : Nat → Prop} {A B : World} (h : Agrees R A B) {p : Addr} (hb : p.block < A.heap.size) (hr : R p.block) : B.cell? p = A.cell? p :=
  World.cell?_of_block (w := A) (h.block p.block hb hr)
theorem Agrees.frozen {R : Nat → Prop} {A B : World} (h : Agrees R A B) {p : Addr} (hb : p.block < A.heap.size) (hr : R p.block) : B.frozen? p = A.frozen? p :=
  World.frozen?_of_block (w := A) (h.block p.block hb hr)

/-- an invariant of the caller's that does not mind an iterator's steps -/
def Stab (n₀ : Nat) (J : Nat → (Nat → Prop) → World → Prop) : Prop :=
  ∀ k C W W', J k C W → Agrees (fun b => C b ∨ b < n₀) W W' → J k C W'

/-- AN ITERATOR's CONTRACT: it hands over 'encs 0', .. , 'encs (N - 1)'. -/
def IterAt (P : Program) (g : FuncId) (lb : Array Value) (encs : Nat → Array Value) (N : Nat) (n₀ : Nat) (R : Nat → Prop) (w0 : World) : Prop :=
  ∀ (l : Nat) (J Jx : Nat → (Nat → Prop) → World → Prop) (C : Nat → Prop) (W : World),
    Agrees R w0 W → (∀ b, C b → ¬ R b ∧ b < W.heap.size) → Stab n₀ J → Stab n₀ Jx →
    (∀ k C W1, k < N → J k C W1 → (∀ b, C b → b < W1.heap.size) → YieldAt Fence.wide 0 P l (encs k) W1 fun e W2 =>
      (e = .returned (.bool true) ∧ Agrees (fun b => ¬ C b) W1 W2 ∧ ∃ C', J (k + 1) C' W2 ∧ (∀ b, C' b → b < W2.heap.size ∧ (C b ∨ W1.heap.size ≤ b))) ∨
      (e = .returned (.bool false) ∧ Agrees (fun b => ¬ C b) W1 W2 ∧ ∃ C', Jx k C' W2 ∧ (∀ b, C' b → b < W2.heap.size ∧ (C b ∨ W1.heap.size ≤ b)))) →
    J 0 C W →
    Calls P g (#[.func (.yield l) #[] #[]] ++ lb) W fun e W2 => (∃ v, e = .returned v) ∧ ∃ C', (J N C' W2 ∨ ∃ k, k < N ∧ Jx k C' W2)

/-- how the body of a round may be left -/
def iterPost (I : Nat → (Nat → Prop) → World → Prop) (Ix : Code → Nat → (Nat → Prop) → World → Prop) (k : Nat) (C : Nat → Prop) (W : World) : Exit → Act → World → Prop
  | .normal, _, W' => Agrees (fun b => ¬ C b) W W' ∧ ∃ C', I (k + 1) C' W' ∧ (∀ b, C' b → b < W'.heap.size ∧ (C b ∨ W.heap.size ≤ b))
  | .ret, _, W' => Agrees (fun b => ¬ C b) W W' ∧ ∃ C', Ix .ret k C' W' ∧ (∀ b, C' b → b < W'.heap.size ∧ (C b ∨ W.heap.size ≤ b))
  | .exit id, _, W' => Agrees (fun b => ¬ C b) W W' ∧ ∃ C', Ix (.exit id) k C' W' ∧ (∀ b, C' b → b < W'.heap.size ∧ (C b ∨ W.heap.size ≤ b))
  | .goto t, _, W' => Agrees (fun b => ¬ C b) W W' ∧ ∃ C', Ix (.goto t) k C' W' ∧ (∀ b, C' b → b < W'.heap.size ∧ (C b ∨ W.heap.size ≤ b))
  | .panic _, _, _ => False
  | .outgrown, _, _ => False

variable {P : Program}

theorem wp_rangeFunc_iter {g : Operand} {ps : Array Tmp} {assign body : Code} {Q : Exit → Act → World → Prop} {a : Act} {w : World}
    {gf : Nat} {lb : Array Value} (hg : a.eval g = .func (.func gf) #[] lb) (eg : ∀ args w, (callFunc gf args).run P w = .ok (.enter gf args) w)
    {encs : Nat → Array Value} {N n₀ : Nat} {R : Nat → Prop} {w0 : World} (hit : IterAt P gf lb encs N n₀ R w0)
    (hR0 : Agrees R w0 w) (hRw : ∀ b, R b → b < w.heap.size) (hn0 : n₀ ≤ w.heap.size) (hps : ∀ k, (encs k).size = ps.size)
    (C : Nat → Prop) (hC : ∀ b, C b → ¬ R b ∧ b < w.heap.size)
    (I : Nat → (Nat → Prop) → World → Prop) (Ix : Code → Nat → (Nat → Prop) → World → Prop) (hI : Stab n₀ I) (hIx : ∀ c, Stab n₀ (Ix c)) (h0 : I 0 C w)
    (a₁ : Nat → Act)
    (hassign : ∀ (l k : Nat) (W : World) (K : Act → World → Prop), K (a₁ k) W →
      assign.wpIn (Fence.wide.inRound l) 0 P (Exit.then K (fun _ _ _ => False)) { tmps := (ps.zip (encs k)).foldl (fun t (p, v) => t.setIfInBounds p v) a.tmps, defers := [] } W)
    (hbody : ∀ (l k : Nat) (C : Nat → Prop) (W : World), k < N → I k C W → (∀ b, C b → b < W.heap.size) → w.heap.size ≤ W.heap.size →
      body.wpIn (Fence.wide.inRound l) 0 P (iterPost I Ix k C W) (a₁ k) W)
    (hdone : ∀ (D : Nat) (C : Nat → Prop) (W : World), w.heap.size ≤ D → I N C W → W.heap[D]? = some (.deferred (some [])) → ¬ C D →
      Q .normal { a with defers := { target := .collected D, args := #[] } :: a.defers } W)
    (hstop : ∀ (D k : Nat) (c : Code) (C : Nat → Prop) (W : World), w.heap.size ≤ D → k < N → Ix c k C W → W.heap[D]? = some (.deferred (some [])) → ¬ C D →
      c.wp P Q { a with defers := { target := .collected D, args := #[] } :: a.defers } W) :
    (Code.rangeFunc g ps assign body).wp P Q a w := by
  refine (wpIn_wide (n := 0)).1 (wpIn_rangeFunc ?_)
  intro fn hfn
  show ∃ l mark w₁ d w₁' f args w₂, (Instr.enterLoop fn a.tmps ps assign body none).run P w = .ok (l, mark) w₁ ∧ _
  obtain ⟨rec, hrec⟩ : ∃ rec : LoopState → Option Code → Loop, rec = fun st pe => { state := st, pending := pe, fn, tmps := a.tmps, params := ps, assign, body, defers := w.heap.size } := ⟨_, rfl⟩
  obtain ⟨W1, hW1⟩ : ∃ W1, (w.alloc (.deferred (some []))).alloc (.loop (rec .ready none)) = W1 := ⟨_, rfl⟩
  have hL1 : W1.heap[w.heap.size + 1]? = some (.loop (rec .ready none)) := by
    rw [← hW1]; have := World.alloc_heap_new (w.alloc (.deferred (some []))) (.loop (rec .ready none)); rwa [World.size_alloc] at this
  have hK1 : W1.heap[w.heap.size]? = some (.deferred (some [])) := by
    rw [← hW1]; exact (Below.heap_alloc _ _ _ (by simp)).trans (World.alloc_heap_new w _)
  have hA1 : Agrees All w W1 := by rw [← hW1]; exact ((Agrees.refl _ w).alloc _).alloc _
  have hI1 : I 0 C W1 := hI _ _ _ _ h0 hA1.weak
  have hsz : W1.heap.size = w.heap.size + 2 := by rw [← hW1]; simp
  have hb1 : Agrees R w0 W1 := hR0.trans hA1.weak
  refine ⟨w.heap.size + 1, [{ target := .collected w.heap.size, args := #[] }], W1, { target := .fn (.func gf) lb, args := #[.func (.yield (w.heap.size + 1)) #[] #[]] }, W1, gf,
    #[.func (.yield (w.heap.size + 1)) #[] #[]] ++ lb, W1, ?_, ?_, ?_, ?_, ?_, ?_⟩
  · rw [← hW1, hrec]; exact run_enterLoop_outer _ _ _ _ _
  · simp only [resolve, hg]
    simp [go_sem]
  · intro f' hf'; exact trivial
  · simp [invoke, go_sem, eg]
  · intro h; cases h
  · refine callsIn_wide.2 ?_
    refine (hit (w.heap.size + 1)
      (fun k C' W => ∃ C, I k C W ∧ ¬ C w.heap.size ∧ ¬ C (w.heap.size + 1) ∧ C' = (fun b => C b ∨ b = w.heap.size ∨ b = w.heap.size + 1) ∧
        W.heap[w.heap.size + 1]? = some (.loop (rec .ready none)) ∧ W.heap[w.heap.size]? = some (.deferred (some [])))
      (fun k C' W => ∃ C c, Ix c k C W ∧ ¬ C w.heap.size ∧ ¬ C (w.heap.size + 1) ∧ C' = (fun b => C b ∨ b = w.heap.size ∨ b = w.heap.size + 1) ∧
        W.heap[w.heap.size + 1]? = some (.loop (rec .done (some c))) ∧ W.heap[w.heap.size]? = some (.deferred (some [])))
      (fun b => C b ∨ b = w.heap.size ∨ b = w.heap.size + 1) W1 hb1 ?_ ?_ ?_ ?_ ⟨C, hI1, fun h => by have := hC _ h; omega, fun h => by have := hC _ h; omega, rfl, hL1, hK1⟩).mono ?_
    · intro b hb
      rcases hb with hb | rfl | rfl
      · have := hC _ hb; exact ⟨this.1, by omega⟩
      · exact ⟨fun h => by have := hRw _ h; omega, by omega⟩
      · exact ⟨fun h => by have := hRw _ h; omega, by omega⟩
    · rintro k C' W W' ⟨C, hi, hc1, hc2, rfl, hl, hk⟩ hag
      refine ⟨C, hI _ _ _ _ hi (hag.mono fun b _ hb => ?_), hc1, hc2, rfl, ?_, ?_⟩
      · rcases hb with hb | hb
        · exact .inl (.inl hb)
        · exact .inr hb
      · exact (hag.block _ (Array.getElem?_eq_some_iff.1 hl).1 (.inl (.inr (.inr rfl)))).trans hl
      · exact (hag.block _ (Array.getElem?_eq_some_iff.1 hk).1 (.inl (.inr (.inl rfl)))).trans hk
    · rintro k C' W W' ⟨C, c, hi, hc1, hc2, rfl, hl, hk⟩ hag
      refine ⟨C, c, hIx c _ _ _ _ hi (hag.mono fun b _ hb => ?_), hc1, hc2, rfl, ?_, ?_⟩
      · rcases hb with hb | hb
        · exact .inl (.inl hb)
        · exact .inr hb
      · exact (hag.block _ (Array.getElem?_eq_some_iff.1 hl).1 (.inl (.inr (.inr rfl)))).trans hl
      · exact (hag.block _ (Array.getElem?_eq_some_iff.1 hk).1 (.inl (.inr (.inl rfl)))).trans hk
    · -- ONE ROUND
      rintro k C' W hkN ⟨C, hi, hc1, hc2, rfl, hl, hk⟩ hCW
      have hlt : w.heap.size + 1 < W.heap.size := (Array.getElem?_eq_some_iff.1 hl).1
      have hy := run_yield (P := P) (args := encs k) hl (by rw [hrec]; exact hps k)
      rw [hrec] at hy
      refine ⟨fn, _, assign, body, hy, roundIn_of_wpIn hfn (hassign _ k W _ ⟨_, run_beginRound hl (by rw [hrec]), ?_⟩)⟩
      obtain ⟨Wb, hWb⟩ : ∃ Wb, W.putObj (w.heap.size + 1) (.loop { rec .ready none with state := .busy }) = Wb := ⟨_, rfl⟩
      rw [hWb]
      have hl2 : Wb.heap[w.heap.size + 1]? = some (.loop { rec .ready none with state := .busy }) := by rw [← hWb]; exact World.putObj_heap_same hlt
      have hk2 : Wb.heap[w.heap.size]? = some (.deferred (some [])) := by rw [← hWb]; exact (World.putObj_heap_other (by omega)).trans hk
      have hagb : Agrees (fun b => b ≠ w.heap.size + 1) W Wb := by rw [← hWb]; exact (Agrees.refl _ W).putObj (.inl (fun h => h rfl)) _
      have hszb : Wb.heap.size = W.heap.size := by rw [← hWb]; simp
      have hib : I k C Wb := hI _ _ _ _ hi (hagb.mono fun b hb hb' => by
        intro e; subst e
        rcases hb' with hb' | hb'
        · exact hc2 hb'
        · omega)
      refine wpIn_mono (hbody _ k C Wb hkN hib (fun b hb => by rw [hszb]; exact hCW b (.inl hb)) (by omega)) ?_
      have fin : ∀ (jump : Option Code) (W3 : World), Agrees (fun b => ¬ C b) Wb W3 →
          (Instr.endRound (w.heap.size + 1) jump).run P W3 = .ok (.bool jump.isNone) (W3.putObj (w.heap.size + 1) (.loop (rec (if jump.isNone then .ready else .done) jump))) ∧
          (W3.putObj (w.heap.size + 1) (.loop (rec (if jump.isNone then .ready else .done) jump))).heap[w.heap.size + 1]? = some (.loop (rec (if jump.isNone then .ready else .done) jump)) ∧
          (W3.putObj (w.heap.size + 1) (.loop (rec (if jump.isNone then .ready else .done) jump))).heap[w.heap.size]? = some (.deferred (some [])) ∧
          Agrees (fun b => b ≠ w.heap.size + 1) W3 (W3.putObj (w.heap.size + 1) (.loop (rec (if jump.isNone then .ready else .done) jump))) ∧ w.heap.size + 1 < W3.heap.size := fun jump W3 hag => by
        have hl3 : W3.heap[w.heap.size + 1]? = some (.loop { rec .ready none with state := .busy }) := (hag.block _ (by omega) hc2).trans hl2
        have hk3 : W3.heap[w.heap.size]? = some (.deferred (some [])) := (hag.block _ (by omega) hc1).trans hk2
        have hlt3 := (Array.getElem?_eq_some_iff.1 hl3).1
        have := run_endRound (P := P) jump hl3
        rw [hrec] at this ⊢
        exact ⟨this, World.putObj_heap_same hlt3, (World.putObj_heap_other (by omega)).trans hk3, (Agrees.refl _ W3).putObj (.inl (fun h => h rfl)) _, hlt3⟩
      have fin2 : ∀ (o : Obj) (W3 : World), Agrees (fun b => ¬ C b) Wb W3 →
          Agrees (fun b => ¬ (C b ∨ b = w.heap.size ∨ b = w.heap.size + 1)) W (W3.putObj (w.heap.size + 1) o) := fun o W3 hag => by
        refine ((hagb.mono (R' := fun b => ¬ (C b ∨ b = w.heap.size ∨ b = w.heap.size + 1)) fun b _ h e => h (.inr (.inr e))).trans
          (hag.mono fun b _ h h' => h (.inl h'))).putObj (.inl fun h => h (.inr (.inr rfl))) _
      rintro e a3 W3 hp
      cases e with
      | normal =>
        obtain ⟨hag, C', hi3, hC'⟩ := hp
        obtain ⟨hr, hl4, hk4, hag4, hlt3⟩ := fin none W3 hag
        have n1 : ¬ C' w.heap.size := fun h => (hC' _ h).2.elim hc1 (fun h => by omega)
        have n2 : ¬ C' (w.heap.size + 1) := fun h => (hC' _ h).2.elim hc2 (fun h => by omega)
        refine ⟨_, _, hr, .inl ⟨rfl, fin2 _ _ hag, _, ⟨C', hI _ _ _ _ hi3 (hag4.mono fun b hb hb' e => ?_), n1, n2, rfl, hl4, hk4⟩, fun b hb => ?_⟩⟩
        · subst e
          rcases hb' with hb' | hb'
          · exact n2 hb'
          · omega
        · rcases hb with hb | rfl | rfl
          · have := hC' b hb
            refine ⟨by simpa using this.1, ?_⟩
            rcases this.2 with h | h
            · exact .inl (.inl h)
            · exact .inr (by omega)
          · exact ⟨by simp; omega, .inl (.inr (.inl rfl))⟩
          · exact ⟨by simp; omega, .inl (.inr (.inr rfl))⟩
      | ret =>
        obtain ⟨hag, C', hi3, hC'⟩ := hp
        obtain ⟨hr, hl4, hk4, hag4, hlt3⟩ := fin (some .ret) W3 hag
        have n1 : ¬ C' w.heap.size := fun h => (hC' _ h).2.elim hc1 (fun h => by omega)
        have n2 : ¬ C' (w.heap.size + 1) := fun h => (hC' _ h).2.elim hc2 (fun h => by omega)
        refine ⟨_, _, hr, .inr ⟨rfl, fin2 _ _ hag, _, ⟨C', .ret, hIx _ _ _ _ _ hi3 (hag4.mono fun b hb hb' e => ?_), n1, n2, rfl, hl4, hk4⟩, fun b hb => ?_⟩⟩
        · subst e
          rcases hb' with hb' | hb'
          · exact n2 hb'
          · omega
        · rcases hb with hb | rfl | rfl
          · have := hC' b hb
            refine ⟨by simpa using this.1, ?_⟩
            rcases this.2 with h | h
            · exact .inl (.inl h)
            · exact .inr (by omega)
          · exact ⟨by simp; omega, .inl (.inr (.inl rfl))⟩
          · exact ⟨by simp; omega, .inl (.inr (.inr rfl))⟩
      | exit id =>
        obtain ⟨hag, C', hi3, hC'⟩ := hp
        obtain ⟨hr, hl4, hk4, hag4, hlt3⟩ := fin (some (.exit id)) W3 hag
        have n1 : ¬ C' w.heap.size := fun h => (hC' _ h).2.elim hc1 (fun h => by omega)
        have n2 : ¬ C' (w.heap.size + 1) := fun h => (hC' _ h).2.elim hc2 (fun h => by omega)
        refine ⟨_, _, hr, .inr ⟨rfl, fin2 _ _ hag, _, ⟨C', .exit id, hIx _ _ _ _ _ hi3 (hag4.mono fun b hb hb' e => ?_), n1, n2, rfl, hl4, hk4⟩, fun b hb => ?_⟩⟩
        · subst e
          rcases hb' with hb' | hb'
          · exact n2 hb'
          · omega
        · rcases hb with hb | rfl | rfl
          · have := hC' b hb
            refine ⟨by simpa using this.1, ?_⟩
            rcases this.2 with h | h
            · exact .inl (.inl h)
            · exact .inr (by omega)
          · exact ⟨by simp; omega, .inl (.inr (.inl rfl))⟩
          · exact ⟨by simp; omega, .inl (.inr (.inr rfl))⟩
      | goto t =>
        obtain ⟨hag, C', hi3, hC'⟩ := hp
        obtain ⟨hr, hl4, hk4, hag4, hlt3⟩ := fin (some (.goto t)) W3 hag
        have n1 : ¬ C' w.heap.size := fun h => (hC' _ h).2.elim hc1 (fun h => by omega)
        have n2 : ¬ C' (w.heap.size + 1) := fun h => (hC' _ h).2.elim hc2 (fun h => by omega)
        refine ⟨_, _, hr, .inr ⟨rfl, fin2 _ _ hag, _, ⟨C', .goto t, hIx _ _ _ _ _ hi3 (hag4.mono fun b hb hb' e => ?_), n1, n2, rfl, hl4, hk4⟩, fun b hb => ?_⟩⟩
        · subst e
          rcases hb' with hb' | hb'
          · exact n2 hb'
          · omega
        · rcases hb with hb | rfl | rfl
          · have := hC' b hb
            refine ⟨by simpa using this.1, ?_⟩
            rcases this.2 with h | h
            · exact .inl (.inl h)
            · exact .inr (by omega)
          · exact ⟨by simp; omega, .inl (.inr (.inl rfl))⟩
          · exact ⟨by simp; omega, .inl (.inr (.inr rfl))⟩
      | panic ch => exact hp.elim
      | outgrown => exact hp.elim
    · -- BEHIND THE ITERATOR
      rintro e W2 ⟨⟨v, rfl⟩, C', (⟨C, hi, hc1, hc2, rfl, hl, hk⟩ | ⟨k, hkN, C, c, hi, hc1, hc2, rfl, hl, hk⟩)⟩
      · have hag : Agrees (fun b => b ≠ w.heap.size + 1) W2 (W2.putObj (w.heap.size + 1) (.loop { rec .ready none with state := .exhausted })) := (Agrees.refl _ W2).putObj (.inl (fun h => h rfl)) _
        refine ⟨none, _, by have := run_endLoop (P := P) hl (by rw [hrec]; simp); rw [hrec] at this ⊢; exact this, hdone w.heap.size C _ (Nat.le_refl _) (hI _ _ _ _ hi (hag.mono fun b hb hb' e => ?_)) ((World.putObj_heap_other (by omega)).trans hk) hc1⟩
        subst e
        rcases hb' with hb' | hb'
        · exact hc2 hb'
        · omega
      · have hag : Agrees (fun b => b ≠ w.heap.size + 1) W2 (W2.putObj (w.heap.size + 1) (.loop { rec .done (some c) with state := .exhausted })) := (Agrees.refl _ W2).putObj (.inl (fun h => h rfl)) _
        refine ⟨some c, _, by have := run_endLoop (P := P) hl (by rw [hrec]; simp); rw [hrec] at this ⊢; exact this, (wpIn_wide (n := 0)).2 (hstop w.heap.size k c C _ (Nat.le_refl _) hkN (hIx c _ _ _ _ hi (hag.mono fun b hb hb' e => ?_)) ((World.putObj_heap_other (by omega)).trans hk) hc1)⟩
        subst e
        rcases hb' with hb' | hb'
        · exact hc2 hb'
        · omega

end Suture
