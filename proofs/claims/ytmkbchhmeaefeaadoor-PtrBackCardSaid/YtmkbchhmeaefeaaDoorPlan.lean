/-
  A REGION THAT DRAWS ITS ORDER, BY A PLAN (no program): what each operation's value is good for, and what holds of the world, whatever has been carried out so far.
  Conditions: none beyond each theorem's own.
-/
import Derived.Test.YtmkbchhmeaefeaaDoorArr
import Derived.OrdersIn
namespace Suture
open Go Go.RowKit

def setL (L : Nat → Bool) (i : Nat) : Nat → Bool := fun j => if j = i then true else L j
def updV (vals : Nat → Value) (i : Nat) (v : Value) : Nat → Value := fun j => if j = i then v else vals j

/-- the value in the slot of operation i -/
def slotV (ops : Array Oper) (a : Act) (i : Nat) : Value :=
  match (ops[i]?).bind (·.dst) with
  | some t => a.tmps.getD t undef
  | none => undef

/-- no two operations write one slot, and each slot is there -/
def planOk (ops : Array Oper) (size : Nat) : Bool :=
  (List.range ops.size).all fun i => (match (ops[i]?).bind (·.dst) with | some t => decide (t < size) | none => true) &&
    (List.range i).all fun j => match (ops[i]?).bind (·.dst), (ops[j]?).bind (·.dst) with | some t, some u => t != u | _, _ => true
/-- every edge that binds leads back -/
def planBack (ops : Array Oper) : Bool :=
  (List.range ops.size).all fun i => match ops[i]? with | some o => o.after.toList.all fun e => !Region.binds .any e || decide (e.on < i) | none => true

structure Slots (ops : Array Oper) (a0 : Act) (V : Nat → Value → Prop) (L : Nat → Bool) (a : Act) : Prop where
  defers : a.defers = a0.defers
  size : a.tmps.size = a0.tmps.size
  keep : ∀ t, (∀ i o, ops[i]? = some o → o.dst = some t → L i = false) → a.tmps[t]? = a0.tmps[t]?
  val : ∀ i o t, ops[i]? = some o → o.dst = some t → L i = true → ∃ v, a.tmps[t]? = some v ∧ V i v
  closed : ∀ i o, ops[i]? = some o → L i = true → ∀ e ∈ o.after, Region.binds .any e = true → L e.on = true

/-- what an operation comes to -/
def OpTo (P : Program) (ops : Array Oper) (o : Oper) (a : Act) (w : World) (R : Value → World → Prop) : Prop :=
  if Region.wanted o (yielded ops a.tmps) then
    match (execOp a.eval o).run P w with
    | .ok (.value v) w' => R v w'
    | .ok .skip w' => R undef w'
    | .ok (.enter f args) w' => Calls P f args w' fun e w'' => ∃ v, e = .returned v ∧ R v w''
    | .ok (.round l f tmps assign body) w' => RoundIn Fence.wide 0 P l f tmps assign body w' fun e w'' => ∃ v, e = .returned v ∧ R v w''
    | _ => False
  else R undef w

theorem getD_both' {listed : Array Bool} {i : Nat} (h : listed.getD i true = false) : listed.getD i false = false := by
  rcases Nat.lt_or_ge i listed.size with h' | h'
  · simp [h'] at h ⊢; exact h
  · simp [Array.getElem?_eq_none h'] at h
theorem getD_in' {listed : Array Bool} {i : Nat} (hi : i < listed.size) (h : listed.getD i false = false) : listed.getD i true = false := by
  simp [hi] at h ⊢; exact h
theorem filter_ne_lt (l : List Nat) (i : Nat) (h : i ∈ l) : (l.filter fun j => decide (j ≠ i)).length < l.length := by
  refine Nat.lt_of_le_of_ne (List.length_filter_le _ _) (fun e => ?_)
  have := List.length_filter_eq_length_iff.1 e i h
  simp at this

section
variable {P : Program} {ops : Array Oper} {a0 : Act} {V : Nat → Value → Prop} {WI : (Nat → Bool) → (Nat → Value) → World → Prop} {Q : Exit → Act → World → Prop}

theorem planOk_size {size : Nat} (h : planOk ops size = true) {i : Nat} {o : Oper} {t : Tmp} (hi : ops[i]? = some o) (ht : o.dst = some t) : t < size := by
  have hlt := (Array.getElem?_eq_some_iff.1 hi).1
  have := List.all_eq_true.1 h i (List.mem_range.2 hlt)
  rw [Bool.and_eq_true] at this
  have h1 := this.1
  rw [hi] at h1
  simpa [ht] using h1
theorem planOk_ne {size : Nat} (h : planOk ops size = true) {i j : Nat} {o o' : Oper} {t : Tmp} (hi : ops[i]? = some o) (ht : o.dst = some t) (hj : ops[j]? = some o') (hu : o'.dst = some t) : i = j := by
  have key : ∀ {i j : Nat} {o o' : Oper}, ops[i]? = some o → o.dst = some t → ops[j]? = some o' → o'.dst = some t → ¬ j < i := by
    intro i j o o' hi ht hj hu hlt
    have hil := (Array.getElem?_eq_some_iff.1 hi).1
    have := List.all_eq_true.1 h i (List.mem_range.2 hil)
    rw [Bool.and_eq_true] at this
    have h2 := List.all_eq_true.1 this.2 j (List.mem_range.2 hlt)
    rw [hi, hj] at h2
    simp [ht, hu] at h2
  have := key hi ht hj hu
  have := key hj hu hi ht
  omega
theorem planBack_lt (h : planBack ops = true) {i : Nat} {o : Oper} (hi : ops[i]? = some o) : ∀ e ∈ o.after, Region.binds .any e = true → e.on < i := by
  intro e he hb
  have hil := (Array.getElem?_eq_some_iff.1 hi).1
  have := List.all_eq_true.1 h i (List.mem_range.2 hil)
  rw [hi] at this
  have := List.all_eq_true.1 this e (Array.mem_toList_iff.2 he)
  simpa [hb] using this

theorem setL_false {L : Nat → Bool} {i j : Nat} (h : setL L i j = false) : L j = false := by
  unfold setL at h
  split at h
  · cases h
  · exact h
theorem slotV_none {a : Act} {j : Nat} (h : ops[j]? = none) : slotV ops a j = undef := by unfold slotV; rw [h]; rfl
theorem slotV_nodst {a : Act} {j : Nat} {o : Oper} (h : ops[j]? = some o) (hd : o.dst = none) : slotV ops a j = undef := by unfold slotV; rw [h]; simp [hd]
theorem slotV_some {a : Act} {j : Nat} {o : Oper} {t : Tmp} (h : ops[j]? = some o) (hd : o.dst = some t) : slotV ops a j = a.tmps.getD t undef := by unfold slotV; rw [h]; simp [hd]

theorem Slots.put (hok : planOk ops a0.tmps.size = true) {L : Nat → Bool} {a : Act} (st : Slots ops a0 V L a) {i : Nat} {o : Oper} {v : Value} (hi : ops[i]? = some o) (hL : L i = false)
    (hd : ∀ e ∈ o.after, Region.binds .any e = true → L e.on = true) (hv : V i v) : Slots ops a0 V (setL L i) (a.put o.dst v) := by
  refine ⟨?_, ?_, ?_, ?_, ?_⟩
  · cases ho : o.dst <;> simp [Act.put, st.defers]
  · cases ho : o.dst <;> simp [Act.put, st.size]
  · intro t ht
    have hne : o.dst ≠ some t := fun e => by have := ht i o hi e; simp [setL] at this
    have hk := st.keep t (fun j oj hj hdj => setL_false (ht j oj hj hdj))
    cases ho : o.dst with
    | none => simpa [Act.put] using hk
    | some u =>
      have : u ≠ t := fun e => hne (by rw [ho, e])
      simp only [Act.put]
      rw [Array.getElem?_setIfInBounds_ne this]; exact hk
  · intro j oj t hj hdj hLj
    by_cases hji : j = i
    · subst hji
      have e : oj = o := Option.some.inj (hj.symm.trans hi)
      subst e
      refine ⟨v, ?_, hv⟩
      rw [hdj]
      simp only [Act.put]
      have := planOk_size hok hj hdj
      rw [Array.getElem?_setIfInBounds_self_of_lt (by rw [st.size]; exact this)]
    · have hLj' : L j = true := by simpa [setL, hji] using hLj
      obtain ⟨u, hu, hVu⟩ := st.val j oj t hj hdj hLj'
      refine ⟨u, ?_, hVu⟩
      cases ho : o.dst with
      | none => simpa [Act.put] using hu
      | some s =>
        have : s ≠ t := fun e => hji (planOk_ne hok hj hdj hi (by rw [ho, e]))
        simp only [Act.put]
        rw [Array.getElem?_setIfInBounds_ne this]; exact hu
  · intro j oj hj hLj e he hb
    by_cases hji : j = i
    · subst hji
      have e' : oj = o := Option.some.inj (hj.symm.trans hi)
      subst e'
      have := hd e he hb
      unfold setL; split
      · rfl
      · exact this
    · have hLj' : L j = true := by simpa [setL, hji] using hLj
      have := st.closed j oj hj hLj' e he hb
      unfold setL; split
      · rfl
      · exact this

theorem slotV_put (hok : planOk ops a0.tmps.size = true) {a : Act} (hs : a.tmps.size = a0.tmps.size) {i : Nat} {o : Oper} {v : Value} (hi : ops[i]? = some o) (hvn : o.dst = none → v = undef) :
    slotV ops (a.put o.dst v) = updV (slotV ops a) i v := by
  funext j
  show _ = if j = i then v else slotV ops a j
  cases hj : ops[j]? with
  | none =>
    have : j ≠ i := fun e => by subst e; rw [hi] at hj; cases hj
    rw [if_neg this, slotV_none hj, slotV_none hj]
  | some oj =>
    by_cases hji : j = i
    · subst hji
      have e : oj = o := Option.some.inj (hj.symm.trans hi)
      subst e
      rw [if_pos rfl]
      cases ho : oj.dst with
      | none => rw [slotV_nodst hj ho, hvn ho]
      | some t =>
        have := planOk_size hok hj ho
        rw [slotV_some hj ho]
        simp [Act.put, hs, this]
    · rw [if_neg hji]
      cases hd : oj.dst with
      | none => rw [slotV_nodst hj hd, slotV_nodst hj hd]
      | some t =>
        rw [slotV_some hj hd, slotV_some hj hd]
        cases ho : o.dst with
        | none => simp [Act.put]
        | some s =>
          have : s ≠ t := fun e => hji (planOk_ne hok hj hd hi (by rw [ho, e]))
          simp [Act.put, Array.getElem?_setIfInBounds_ne this]

/-- all slots written, in the text's order -/
def putAll (a : Act) (vals : Nat → Value) : Nat → List Oper → Act
  | _, [] => a
  | i, o :: rest => putAll (a.put o.dst (vals i)) vals (i + 1) rest

theorem putAll_defers (vals : Nat → Value) : ∀ (l : List Oper) (i : Nat) (a : Act), (putAll a vals i l).defers = a.defers
  | [], _, _ => rfl
  | o :: l, i, a => by rw [putAll, putAll_defers vals l]; cases o.dst <;> simp [Act.put]
theorem putAll_size (vals : Nat → Value) : ∀ (l : List Oper) (i : Nat) (a : Act), (putAll a vals i l).tmps.size = a.tmps.size
  | [], _, _ => rfl
  | o :: l, i, a => by rw [putAll, putAll_size vals l]; cases o.dst <;> simp [Act.put]
theorem putAll_other (vals : Nat → Value) (t : Tmp) : ∀ (l : List Oper) (i : Nat) (a : Act), (∀ o ∈ l, o.dst ≠ some t) → (putAll a vals i l).tmps[t]? = a.tmps[t]?
  | [], _, _, _ => rfl
  | o :: l, i, a, h => by
    rw [putAll, putAll_other vals t l _ _ (fun o' ho' => h o' (List.mem_cons_of_mem _ ho'))]
    have := h o (by simp)
    cases ho : o.dst with
    | none => simp [Act.put]
    | some s =>
      have : s ≠ t := fun e => this (by rw [ho, e])
      simp only [Act.put]
      rw [Array.getElem?_setIfInBounds_ne this]
theorem putAll_at (vals : Nat → Value) (t : Tmp) : ∀ (l : List Oper) (i : Nat) (a : Act) (k : Nat) (o : Oper), l[k]? = some o → o.dst = some t → (∀ j o', l[j]? = some o' → o'.dst = some t → j = k) → t < a.tmps.size →
    (putAll a vals i l).tmps[t]? = some (vals (i + k))
  | [], _, _, k, o, h, _, _, _ => by simp at h
  | x :: l, i, a, 0, o, h, ht, hu, hs => by
    simp at h
    subst h
    rw [putAll, putAll_other vals t l _ _ (fun o' ho' e => by
      obtain ⟨j, hj⟩ := List.getElem?_of_mem ho'
      have := hu (j + 1) o' (by simpa using hj) e
      omega)]
    rw [ht]
    simp only [Act.put]
    rw [Array.getElem?_setIfInBounds_self_of_lt hs]; rfl
  | x :: l, i, a, k + 1, o, h, ht, hu, hs => by
    simp at h
    rw [putAll, putAll_at vals t l (i + 1) _ k o h ht (fun j o' hj hd => by have := hu (j + 1) o' (by simpa using hj) hd; omega)]
    · rw [Nat.add_assoc, Nat.add_comm 1 k]
    · cases x.dst <;> simp [Act.put, hs]

theorem Slots.all (hok : planOk ops a0.tmps.size = true) {L : Nat → Bool} {a : Act} (st : Slots ops a0 V L a) (hL : ∀ i, i < ops.size → L i = true) :
    a = putAll a0 (slotV ops a) 0 ops.toList := by
  have ht : a.tmps = (putAll a0 (slotV ops a) 0 ops.toList).tmps := by
    apply Array.ext_getElem?
    intro t
    by_cases h : ∃ (i : Nat) (o : Oper), ops[i]? = some o ∧ o.dst = some t
    · obtain ⟨i, o, hi, hd⟩ := h
      have hlt := planOk_size hok hi hd
      obtain ⟨v, hv, _⟩ := st.val i o t hi hd (hL i (Array.getElem?_eq_some_iff.1 hi).1)
      rw [putAll_at (slotV ops a) t ops.toList 0 a0 i o (by simpa using hi) hd (fun j o' hj hd' => planOk_ne hok (by simpa using hj) hd' hi hd) hlt]
      rw [Nat.zero_add, hv]
      unfold slotV
      rw [hi]
      simp [hd, hv]
    · rw [putAll_other (slotV ops a) t _ _ _ (fun o ho e => by
        obtain ⟨i, hi⟩ := List.getElem?_of_mem ho
        exact h ⟨i, o, by simpa using hi, e⟩)]
      exact st.keep t (fun i o hi hd => (h ⟨i, o, hi, hd⟩).elim)
  have hd : a.defers = (putAll a0 (slotV ops a) 0 ops.toList).defers := by rw [putAll_defers, st.defers]
  cases a
  generalize putAll a0 (slotV ops _) 0 ops.toList = b at *
  cases b
  simp_all

/-- the steps that a plan owes -/
def Steps (P : Program) (ops : Array Oper) (a0 : Act) (V : Nat → Value → Prop) (WI : (Nat → Bool) → (Nat → Value) → World → Prop) (i : Nat) : Prop :=
  ∀ o L a w, ops[i]? = some o → L i = false → (∀ e ∈ o.after, Region.binds .any e = true → L e.on = true) → Slots ops a0 V L a → WI L (slotV ops a) w →
    OpTo P ops o a w fun v w' => (o.dst = none → v = undef) ∧ V i v ∧ WI (setL L i) (updV (slotV ops a) i v) w'

theorem plan_any (hok : planOk ops a0.tmps.size = true) (hback : planBack ops = true) (hsteps : ∀ i, i < ops.size → Steps P ops a0 V WI i)
    (hend : ∀ vals w, (∀ (i : Nat) (o : Oper) (t : Tmp), ops[i]? = some o → o.dst = some t → V i (vals i)) → WI (fun i => decide (i < ops.size)) vals w → Q .normal (putAll a0 vals 0 ops.toList) w) :
    ∀ (fuel : Nat) (listed : Array Bool) (a : Act) (w : World), listed.size = ops.size → ((List.range ops.size).filter (fun i => !listed.getD i false)).length ≤ fuel →
      Slots ops a0 V (fun i => listed.getD i false) a → WI (fun i => listed.getD i false) (slotV ops a) w → wpAnyIn Fence.wide 0 P .any ops Q fuel listed a w := by
  have hfin : ∀ (listed : Array Bool) (a : Act) (w : World), listed.size = ops.size → Region.ready .any ops listed = [] → Slots ops a0 V (fun i => listed.getD i false) a → WI (fun i => listed.getD i false) (slotV ops a) w → Q .normal a w := by
    intro listed a w hsz hr st wi
    have hall : ∀ i, i < ops.size → listed.getD i false = true := by
      intro i
      induction i using Nat.strongRecOn with
      | _ i ih =>
        intro hi
        cases hl : listed.getD i false with
        | true => rfl
        | false =>
          exfalso
          have : i ∈ Region.ready .any ops listed := by
            refine mem_ready.2 ⟨getD_in' (by omega) hl, ops[i], Array.getElem?_eq_getElem hi, fun e he hb => ?_⟩
            have hlt := planBack_lt hback (Array.getElem?_eq_getElem hi) e he hb
            exact ih e.on hlt (by omega)
          rw [hr] at this
          cases this
    have hLL : (fun i => listed.getD i false) = (fun i => decide (i < ops.size)) := by
      funext i
      by_cases hi : i < ops.size
      · rw [hall i hi]; simp [hi]
      · have : listed.getD i false = false := by simp [Array.getElem?_eq_none (show listed.size ≤ i by omega)]
        rw [this]; simp [hi]
    have ha := st.all hok (fun i hi => hall i hi)
    rw [hLL] at wi
    have := hend (slotV ops a) w (fun i o t hi hd => by
      obtain ⟨v, hv, hV⟩ := st.val i o t hi hd (hall i (Array.getElem?_eq_some_iff.1 hi).1)
      have e : slotV ops a i = v := by unfold slotV; rw [hi]; simp [hd, hv]
      rw [e]; exact hV) wi
    rw [ha]; exact this
  intro fuel
  induction fuel with
  | zero =>
    intro listed a w hsz hf st wi
    have hr : Region.ready .any ops listed = [] := by
      apply List.eq_nil_iff_forall_not_mem.2
      intro i hi
      obtain ⟨h0, o, ho, _⟩ := mem_ready.1 hi
      have hlt := (Array.getElem?_eq_some_iff.1 ho).1
      have : i ∈ (List.range ops.size).filter (fun i => !listed.getD i false) := by
        rw [List.mem_filter]
        refine ⟨List.mem_range.2 hlt, ?_⟩
        rw [getD_both' h0]; rfl
      have h2 : (List.range ops.size).filter (fun i => !listed.getD i false) = [] := List.length_eq_zero_iff.1 (by omega)
      rw [h2] at this
      cases this
    exact ⟨hr, hfin listed a w hsz hr st wi⟩
  | succ fuel ih =>
    intro listed a w hsz hf st wi
    refine ⟨fun hr => hfin listed a w hsz hr st wi, fun i hi => ?_⟩
    obtain ⟨h0, o, ho, hd⟩ := mem_ready.1 hi
    have hlt := (Array.getElem?_eq_some_iff.1 ho).1
    have hLi : listed.getD i false = false := getD_both' h0
    have hset : (fun j => (listed.setIfInBounds i true).getD j false) = setL (fun j => listed.getD j false) i := by
      funext j
      unfold setL
      by_cases hji : j = i
      · subst hji; simp [hsz, hlt]
      · simp only [hji, if_false]
        exact Go.getD_set_ne false (fun e => hji e.symm)
    have hcount : ((List.range ops.size).filter (fun j => !(listed.setIfInBounds i true).getD j false)).length ≤ fuel := by
      have e : (List.range ops.size).filter (fun j => !(listed.setIfInBounds i true).getD j false) = ((List.range ops.size).filter (fun j => !listed.getD j false)).filter (fun j => decide (j ≠ i)) := by
        rw [List.filter_filter]
        congr 1
        funext j
        have := congrFun hset j
        rw [this]
        unfold setL
        by_cases hji : j = i
        · simp [hji]
        · simp [hji]
      rw [e]
      have hmem : i ∈ (List.range ops.size).filter (fun j => !listed.getD j false) := by
        rw [List.mem_filter]; exact ⟨List.mem_range.2 hlt, by rw [hLi]; rfl⟩
      have := filter_ne_lt _ i hmem
      omega
    have hstep := hsteps i hlt o _ a w ho hLi hd st wi
    have next : ∀ v w', (o.dst = none → v = undef) ∧ V i v ∧ WI (setL (fun j => listed.getD j false) i) (updV (slotV ops a) i v) w' →
        wpAnyIn Fence.wide 0 P .any ops Q fuel (listed.setIfInBounds i true) (a.put o.dst v) w' := by
      rintro v w' ⟨hvn, hv, hwi⟩
      refine ih _ _ _ (by simp [hsz]) hcount ?_ ?_
      · rw [hset]; exact st.put hok ho hLi hd hv
      · rw [hset, slotV_put hok st.size ho hvn]; exact hwi
    unfold wpOpIn
    rw [ho]
    simp only
    unfold OpTo at hstep
    by_cases hw : Region.wanted o (yielded ops a.tmps) = true
    · rw [if_pos hw] at hstep ⊢
      refine ⟨fun f _ => trivial, ?_⟩
      have hse : o.semAt Fence.wide.round a.eval = execOp a.eval o := rfl
      rw [hse]
      generalize (execOp a.eval o).run P w = r at *
      cases r with
      | halt h w' => exact hstep.elim
      | ok x w' =>
        cases x with
        | value v => exact next v w' hstep
        | skip => exact next undef w' hstep
        | enter f args =>
          refine ⟨(fun h => by cases h), callsIn_wide.2 (hstep.mono ?_)⟩
          rintro e w'' ⟨v, rfl, hR⟩
          exact next v w'' hR
        | round l f tmps assign body =>
          refine ⟨(fun h => by cases h), hstep.mono ?_⟩
          rintro e w'' ⟨v, rfl, hR⟩
          exact next v w'' hR
        | _ => exact hstep.elim
    · rw [if_neg hw] at hstep ⊢
      exact ⟨fun f _ => trivial, next undef w hstep⟩

/-! ### small words for a plan's steps -/
def planFree (ops : Array Oper) (t : Tmp) : Bool := (List.range ops.size).all fun i => match (ops[i]?).bind (·.dst) with | some u => u != t | none => true
theorem Slots.outside {L : Nat → Bool} {a : Act} (st : Slots ops a0 V L a) {t : Tmp} (h : planFree ops t = true) {v : Value} (hv : a0.tmps[t]? = some v) : a.tmps[t]? = some v := by
  refine (st.keep t (fun i o hi hd => ?_)).trans hv
  have hil := (Array.getElem?_eq_some_iff.1 hi).1
  have := List.all_eq_true.1 h i (List.mem_range.2 hil)
  rw [hi] at this
  simp [hd] at this
/-- a slot that a later operation k will write -/
theorem Slots.before {L : Nat → Bool} {a : Act} (hok : planOk ops a0.tmps.size = true) (st : Slots ops a0 V L a) {i k : Nat} {t : Tmp} {ok : Oper} (hL : L i = false) (hk : ops[k]? = some ok) (hd : ok.dst = some t)
    {e : Edge} (he : e ∈ ok.after) (hb : Region.binds .any e = true) (hon : e.on = i) {v : Value} (hv : a0.tmps[t]? = some v) : a.tmps[t]? = some v := by
  refine (st.keep t (fun j o hj hdj => ?_)).trans hv
  obtain rfl := planOk_ne hok hj hdj hk hd
  cases hLj : L j with
  | false => rfl
  | true => have := st.closed j ok hk hLj e he hb; rw [hon, hL] at this; cases this
theorem opTo_val {o : Oper} {a : Act} {w w' : World} {v : Value} {R : Value → World → Prop} (hw : Region.wanted o (yielded ops a.tmps) = true) (hrun : (execOp a.eval o).run P w = .ok (.value v) w') (h : R v w') : OpTo P ops o a w R := by
  unfold OpTo; rw [if_pos hw, hrun]; exact h
theorem opTo_skip {o : Oper} {a : Act} {w w' : World} {R : Value → World → Prop} (hw : Region.wanted o (yielded ops a.tmps) = true) (hrun : (execOp a.eval o).run P w = .ok .skip w') (h : R undef w') : OpTo P ops o a w R := by
  unfold OpTo; rw [if_pos hw, hrun]; exact h
theorem opTo_call {o : Oper} {a : Act} {w w' : World} {f : FuncId} {args : Array Value} {R : Value → World → Prop} (hw : Region.wanted o (yielded ops a.tmps) = true) (hrun : (execOp a.eval o).run P w = .ok (.enter f args) w')
    (h : Calls P f args w' fun e w'' => ∃ v, e = .returned v ∧ R v w'') : OpTo P ops o a w R := by
  unfold OpTo; rw [if_pos hw, hrun]; exact h
theorem opTo_not {o : Oper} {a : Act} {w : World} {R : Value → World → Prop} (hw : Region.wanted o (yielded ops a.tmps) = false) (h : R undef w) : OpTo P ops o a w R := by
  unfold OpTo; rw [if_neg (by rw [hw]; exact Bool.false_ne_true)]; exact h

theorem steps_of {i : Nat} {o : Oper} (ho : ops[i]? = some o)
    (h : ∀ L a w, L i = false → (∀ e ∈ o.after, Region.binds .any e = true → L e.on = true) → Slots ops a0 V L a → WI L (slotV ops a) w →
      OpTo P ops o a w fun v w' => (o.dst = none → v = undef) ∧ V i v ∧ WI (setL L i) (updV (slotV ops a) i v) w') : Steps P ops a0 V WI i := by
  intro o' L a w ho' hL hd st wi
  obtain rfl : o = o' := Option.some.inj (ho.symm.trans ho')
  exact h L a w hL hd st wi
theorem ex_move {o : Oper} {a : Act} {w : World} {x : Operand} (ho : o.op = .move x ∨ o.op = .assign x) {v : Value} (hx : a.eval x = v) : (execOp a.eval o).run P w = .ok (.value v) w := by
  unfold execOp
  rcases ho with ho | ho <;> rw [ho] <;> simp only [hx] <;> rfl

/-- THE PLAN, for the walk in the fence -/
theorem wpIn_region_plan {id : Nat} {w : World} (hm : P.follows .mixedOrders = true) (hok : planOk ops a0.tmps.size = true) (hback : planBack ops = true)
    (V : Nat → Value → Prop) (WI : (Nat → Bool) → (Nat → Value) → World → Prop)
    (h0 : ∀ vals, WI (fun _ => false) vals w.drew) (hsteps : ∀ i, i < ops.size → Steps P ops a0 V WI i)
    (hend : ∀ vals w, (∀ (i : Nat) (o : Oper) (t : Tmp), ops[i]? = some o → o.dst = some t → V i (vals i)) → WI (fun i => decide (i < ops.size)) vals w → Q .normal (putAll a0 vals 0 ops.toList) w) :
    (Code.region id ops true).wpIn Fence.wide 0 P Q a0 w := by
  have hL : (fun i => (Array.replicate ops.size false).getD i false) = (fun _ => false) := by
    funext i
    rcases Nat.lt_or_ge i ops.size with h | h
    · simp [h]
    · simp [h]
  refine wpIn_region_any hm (plan_any hok hback hsteps hend ops.size _ a0 _ (by simp) ?_ ?_ ?_)
  · have := List.length_filter_le (fun i => !(Array.replicate ops.size false).getD i false) (List.range ops.size)
    rw [List.length_range] at this
    exact this
  · rw [hL]
    exact ⟨rfl, rfl, fun _ _ => rfl, (fun _ _ _ _ _ h => by cases h), (fun _ _ _ h => by cases h)⟩
  · rw [hL]; exact h0 _
/-- THE PLAN -/
theorem wp_region_plan {id : Nat} {w : World} (hm : P.follows .mixedOrders = true) (hok : planOk ops a0.tmps.size = true) (hback : planBack ops = true)
    (V : Nat → Value → Prop) (WI : (Nat → Bool) → (Nat → Value) → World → Prop)
    (h0 : ∀ vals, WI (fun _ => false) vals w.drew) (hsteps : ∀ i, i < ops.size → Steps P ops a0 V WI i)
    (hend : ∀ vals w, (∀ (i : Nat) (o : Oper) (t : Tmp), ops[i]? = some o → o.dst = some t → V i (vals i)) → WI (fun i => decide (i < ops.size)) vals w → Q .normal (putAll a0 vals 0 ops.toList) w) :
    (Code.region id ops true).wp P Q a0 w :=
  wpIn_wide.1 (wpIn_region_plan hm hok hback V WI h0 hsteps hend)
end
end Suture
