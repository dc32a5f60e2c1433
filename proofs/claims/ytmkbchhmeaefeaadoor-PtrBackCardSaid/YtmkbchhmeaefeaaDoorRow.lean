/-
  FROM A CONTRACT TO A ROW's STEP, for a law that keeps all that was there: the arguments read behind the call as before.
  Conditions: none beyond each theorem's own.
-/
import Derived.WalkKit
import Derived.ProofKit
import Derived.OpenShut
import Derived.Deep.Slices
import Derived.Test.YtmkbchhmeaefeaaDoorMem
namespace Suture
open Go Go.RowKit Go.ChangeShapes Go.WideShapes Go.ChangeAt

section
variable {H : Type} {enc : TypeId × Value → H} {P : Program}

theorem trodAll_stays (hl : laidOutB P = true) {W W' : World} {sp : Nat → Bool} : ∀ (ts : List TypeId) (vs : List Value) (ds : List (DataW H)) (ps : List MemPlace),
    (∀ t ∈ ts, P.readableRec t = true ∧ t < P.types.size) → DataW.TrodAll enc P W 0 (fun _ => true) true ts vs ds ps → (∀ p ∈ ps, W.sameAt W' p) → (∀ p ∈ ps, sp p.block = true) →
    DataW.TrodAll enc P W' 0 sp true ts vs ds ps
  | [], [], [], ps, _, h, _, _ => h
  | t :: ts, v :: vs, d :: ds, ps, ht, h, hsame, hsp => by
    obtain ⟨p, q, h1, h2, rfl⟩ := h
    exact ⟨p, q, WideElems.Trod_stays hl (ht t (by simp)).1 (ht t (by simp)).2 h1 (fun x hx => hsame x (List.mem_append_left _ hx)) (fun x hx => hsp x (List.mem_append_left _ hx)),
      trodAll_stays hl ts vs ds q (fun t' h' => ht t' (List.mem_cons_of_mem _ h')) h2 (fun x hx => hsame x (List.mem_append_right _ hx)) (fun x hx => hsp x (List.mem_append_right _ hx)), rfl⟩
  | [], [], _ :: _, _, _, h, _, _ => h.elim
  | [], _ :: _, _, _, _, h, _, _ => h.elim
  | _ :: _, [], _, _, _, h, _, _ => h.elim
  | _ :: _, _ :: _, [], _, _, h, _, _ => h.elim

theorem addr_plain {W : World} {a : Addr} {v : Value} (h : W.cell? a = some v) : ∃ b off, a = ⟨b, off, none⟩ := by
  obtain ⟨b, off, spot⟩ := a
  have hspot : spot = none := World.cell?_spot h
  subst hspot
  exact ⟨b, off, rfl⟩
theorem bytes_of_trod {W : World} {t e : TypeId} {cs : List Value} {fuel : Nat} {x : DataW H × List MemPlace} (ht : P.underlying t = some (.slice e)) (he : P.underlying e = some (.int .u8)) (hc : P.cellsOf e = 1)
    (hf : DataW.trod enc P W 0 (fun _ => true) true fuel t cs = some x) : ∃ a n cap bs, cs = [.slice a n cap] ∧ BytesAt All W (.slice a n cap) bs := by
  rcases open_ints ht he hc hf with ⟨hcs, _⟩ | ⟨a, len, cap, zs, hcs, _, hl, hm, hz, _, hcell, hwz⟩
  · exact ⟨none, 0, 0, [], hcs, _, 0, 0, rfl, rfl, by omega, fun i x hx => by simp at hx⟩
  · unfold maxLen at hm
    simp only [if_true] at hz
    refine ⟨some a, len, cap, (zs.take len).map (BitVec.ofInt 8), hcs, _, len, cap, rfl, by simp; omega, by omega, fun i x hx => ?_⟩
    have hi : i < len := by
      have := (List.getElem?_eq_some_iff.1 hx).1
      simp at this; omega
    have hp : 0 < zs.length := by omega
    obtain ⟨b, off, rfl, hcell'⟩ := ints_at hcell hp
    have hlt : b < W.heap.size := by
      have := hcell' 0 hp
      unfold World.cell? at this
      cases hq : W.heap[b]? with
      | none => rw [hq] at this; cases this
      | some o => exact (Array.getElem?_eq_some_iff.1 hq).1
    refine ⟨b, off, rfl, trivial, hlt, ?_⟩
    rw [hcell' i (by omega)]
    rw [List.getElem?_map, List.getElem?_map, List.getElem?_take_of_lt hi, List.getElem?_eq_getElem (by omega)] at hx
    simp only [Option.map_some, Option.some.injEq] at hx
    rw [← hx]
    congr 1
    have hg : zs.getD i 0 = zs[i] := by rw [List.getD_eq_getElem?_getD, List.getElem?_eq_getElem (by omega)]; rfl
    rw [hg]
    have hw := hwz _ (List.getElem_mem (show i < zs.length by omega))
    have hx : 0 ≤ zs[i] ∧ zs[i] ≤ 255 := by simpa [Lit.wf, IntKind.min, IntKind.max, IntKind.signed, IntKind.bits] using hw
    unfold B
    rw [BitVec.toNat_ofInt]
    have e : ((zs[i] % ((2 ^ 8 : Nat) : Int)).toNat : Int) = zs[i] := by
      rw [show (2 ^ 8 : Nat) = 256 from rfl]; omega
    rw [e]
/-- a slice of bytes that came in -/
theorem open_bytes {W : World} {t e : TypeId} {v : Value} {d : DataW H} {ps : List MemPlace} {r : Reach} {base : Nat} (ht : P.underlying t = some (.slice e)) (he : P.underlying e = some (.int .u8)) (hc : P.cellsOf e = 1)
    (hval : Value.okWide P W r base t v) (h : DataW.Trod enc P W 0 (fun _ => true) true t v d ps) : ∃ a n cap bs, v = .slice a n cap ∧ BytesAt All W (.slice a n cap) bs := by
  obtain ⟨a0, len, cap, rfl⟩ := okWide_slice ht hval
  obtain ⟨fuel, hf⟩ := h
  obtain ⟨a, n, cap, bs, hcs, hb⟩ := bytes_of_trod ht he hc hf
  simp only [Value.cells, List.cons.injEq, and_true] at hcs
  exact ⟨a, n, cap, bs, hcs, hb⟩
/-- a slice of slices of bytes that came in -/
theorem open_parts {W : World} {t s e : TypeId} {v : Value} {d : DataW H} {ps : List MemPlace} {r : Reach} {base : Nat} (ht : P.underlying t = some (.slice s)) (hcs : P.cellsOf s = 1) (hs : P.underlying s = some (.slice e)) (he : P.underlying e = some (.int .u8))
    (hc : P.cellsOf e = 1) (hval : Value.okWide P W r base t v) (h : DataW.Trod enc P W 0 (fun _ => true) true t v d ps) : ∃ a n cap parts, v = .slice a n cap ∧ PartsAt All W (.slice a n cap) parts := by
  obtain ⟨a0, len, cap, rfl⟩ := okWide_slice ht hval
  obtain ⟨fuel, hf⟩ := h
  rcases Deep.open_slice1 ht hcs hf with ⟨h0, _⟩ | ⟨a, len', cap', m, n, V, D, Pl, h0, _, hl, hm, hmm, _, hat⟩
  · simp only [Value.cells, List.cons.injEq, and_true] at h0
    cases h0
    exact ⟨none, 0, 0, [], rfl, [], ⟨_, 0, 0, rfl, rfl, by omega, fun i x hx => by simp at hx⟩, rfl, fun i x p hx _ => by simp at hx⟩
  · simp only [Value.cells, List.cons.injEq, and_true] at h0
    cases h0
    have hml : len ≤ m := by simp only [if_true] at hmm; omega
    obtain ⟨F, hF⟩ := Deep.choose_lt (α := List (BitVec 8)) (n := len) (p := fun i bs => BytesAt All W (V i) bs) (fun i hi => by
      obtain ⟨a', n', c', bs, h1, h2⟩ := bytes_of_trod hs he hc (hat i (by omega)).2
      simp only [List.cons.injEq, and_true] at h1
      exact ⟨bs, by rw [h1]; exact h2⟩)
    unfold maxLen at hm
    refine ⟨some a, len, cap, (List.range len).map F, rfl, (List.range len).map V, ⟨_, len, cap, rfl, by simp, by omega, fun i x hx => ?_⟩, by simp, fun i x p hx hp => ?_⟩
    · have hi : i < len := by have := (List.getElem?_eq_some_iff.1 hx).1; simpa using this
      rw [List.getElem?_map, List.getElem?_range hi] at hx
      obtain rfl := Option.some.inj hx
      have h0 := (hat 0 (by omega)).1
      have hi' := (hat i (by omega)).1
      rw [show a.add 0 = a by simp [Addr.add]] at h0
      obtain ⟨b, off, rfl⟩ := addr_plain h0
      rw [Go.WideShapes.add_plain] at hi'
      exact ⟨b, off, rfl, trivial, World.block_lt_of_cell? W _ hi', hi'⟩
    · have hi : i < len := by have := (List.getElem?_eq_some_iff.1 hx).1; simpa using this
      rw [List.getElem?_map, List.getElem?_range hi] at hx hp
      obtain rfl := Option.some.inj hx
      obtain rfl := Option.some.inj hp
      exact hF i hi
theorem u64_of {a : Int} (h : (Lit.int .u64 a).wf = true) : Value.int .u64 a = U (BitVec.ofInt 64 a) := by
  have hx : 0 ≤ a ∧ a ≤ 18446744073709551615 := by simpa [Lit.wf, IntKind.min, IntKind.max, IntKind.signed, IntKind.bits] using h
  unfold U
  rw [BitVec.toNat_ofInt]
  have e : ((a % ((2 ^ 64 : Nat) : Int)).toNat : Int) = a := by
    rw [show (2 ^ 64 : Nat) = 18446744073709551616 from rfl]; omega
  rw [e]
theorem u8_of {a : Int} (h : (Lit.int .u8 a).wf = true) : Value.int .u8 a = B (BitVec.ofInt 8 a) := by
  have hx : 0 ≤ a ∧ a ≤ 255 := by simpa [Lit.wf, IntKind.min, IntKind.max, IntKind.signed, IntKind.bits] using h
  unfold B
  rw [BitVec.toNat_ofInt]
  have e : ((a % ((2 ^ 8 : Nat) : Int)).toNat : Int) = a := by
    rw [show (2 ^ 8 : Nat) = 256 from rfl]; omega
  rw [e]

/-- an array of numbers that came in -/
theorem open_intArray {W : World} {t e : TypeId} {v : Value} {d : DataW H} {ps : List MemPlace} {r : Reach} {base N : Nat} {k : IntKind} (ht : P.underlying t = some (.array N e)) (he : P.underlying e = some (.int k)) (hc : P.cellsOf e = 1)
    (hN : P.cellsOf t = N) (hval : Value.okWide P W r base t v) (h : DataW.Trod enc P W 0 (fun _ => true) true t v d ps) :
    ∃ ys : Array Value, v = .agg ys ∧ ys.size = N ∧ ∀ i, i < N → ∃ z, ys[i]? = some (.int k z) ∧ (Lit.int k z).wf = true := by
  unfold Value.okWide at hval
  rw [ht] at hval
  obtain ⟨ys, rfl, hs, _⟩ := hval
  obtain ⟨fuel, hf⟩ := h
  obtain ⟨xs, m, rfl, _, hl, hx, hat⟩ := DataW.trod_array ht hf
  have hcs : (Value.agg ys).cells = ys := rfl
  rw [hcs] at hat
  refine ⟨ys, rfl, by rw [hs, hN], fun i hi => ?_⟩
  have hi2 := hat i hi
  rw [List.getElem?_eq_getElem (by omega), hc, Nat.mul_one] at hi2
  obtain ⟨z, hz, _, hw⟩ := DataW.trod_int he hi2
  refine ⟨z, ?_, hw⟩
  have h0 : ((ys.toList.drop i).take 1)[0]? = some (.int k z) := by rw [hz]; rfl
  rw [List.getElem?_take_of_lt (by omega), List.getElem?_drop, Nat.add_zero] at h0
  simpa using h0
def byteOf : Option Value → BitVec 8
  | some (.int _ z) => BitVec.ofInt 8 z
  | _ => 0
theorem open_byteArray {W : World} {t e : TypeId} {v : Value} {d : DataW H} {ps : List MemPlace} {r : Reach} {base N : Nat} (ht : P.underlying t = some (.array N e)) (he : P.underlying e = some (.int .u8)) (hc : P.cellsOf e = 1)
    (hN : P.cellsOf t = N) (hval : Value.okWide P W r base t v) (h : DataW.Trod enc P W 0 (fun _ => true) true t v d ps) :
    ∃ (ys : Array Value) (y : List (BitVec 8)), v = .agg ys ∧ y.length = N ∧ ys = (y.map B).toArray := by
  obtain ⟨ys, rfl, hs, hat⟩ := open_intArray ht he hc hN hval h
  refine ⟨ys, (List.range N).map fun i => byteOf ys[i]?, rfl, by simp, ?_⟩
  apply Array.ext_getElem?
  intro i
  by_cases hi : i < N
  · obtain ⟨z, hz, hw⟩ := hat i hi
    rw [hz, List.getElem?_toArray, List.getElem?_map, List.getElem?_map, List.getElem?_range hi]
    simp only [Option.map_some, hz, byteOf]
    rw [u8_of hw]
  · rw [Array.getElem?_eq_none (by omega), List.getElem?_toArray, List.getElem?_eq_none (by simp; omega)]

theorem bytes_get {y : List (BitVec 8)} {N : Nat} (hl : y.length = N) : ∀ i, i < N → (y.map B).toArray[i]? = some (B (y.getD i 0)) := by
  intro i hi
  rw [List.getElem?_toArray, List.getElem?_map, List.getD_eq_getElem?_getD, List.getElem?_eq_getElem (by omega)]; rfl

theorem Agrees.below' {W W' : World} (h : Agrees All W W') : Below W.heap.size W W' := h.below (fun _ _ => trivial) (Nat.le_refl _)

/-- the row's word behind a call that returns true and keeps all that was there -/
theorem post_law {f : Func} {s : ChangeSpec} {W W' : World} {args : Array Value} {ds gs : List (DataW H)} {before : List MemPlace} {tb : TypeId} (hl : laidOutB P = true)
    (htb : (f.params.toList.all fun t => P.readableRec t && decide (t < P.types.size)) = true) (hW : DataW.Whole enc P f.params.toList s.vars false W args.toList ds gs before)
    (hvars : s.vars = []) (hres : f.resultTypes = #[tb]) (hu : P.underlying tb = some .bool)
    (hs1 : (s.fn H ds).results = [.lit (.bool true)]) (hs2 : (s.fn H ds).args = ds) (hs3 : (s.fn H ds).vars = []) (hag : Agrees All W W') :
    s.post enc P f false true false false W args (.bool true) W' := by
  have hts : ∀ t ∈ f.params.toList, P.readableRec t = true ∧ t < P.types.size := fun t ht => by
    have := List.all_eq_true.1 htb t ht
    simpa using this
  have hb := hag.below'
  have hlt := hW.lt
  have hW' := hW
  obtain ⟨p, q, hA, hV, rfl, hfz, hnd⟩ := hW
  rw [hvars] at hV
  cases gs with
  | cons g gs => exact hV.elim
  | nil =>
    obtain rfl : q = [] := hV
    refine ⟨ds, [], _, [], p, [], hW', ?_, ?_, ?_, hb.frame _, fun h => by cases h⟩
    · rw [hres, List.append_nil, hs1]
      exact ⟨[], [], shut_bool hu true, rfl, rfl⟩
    · rw [List.append_nil, hs2]
      exact trodAll_stays hl _ _ _ _ hts hA (fun x hx => hb.same (hlt x (List.mem_append_left _ hx))) (fun x hx => by simpa using hlt x (List.mem_append_left _ hx))
    · rw [List.append_nil, hvars, hs3]; rfl
end
end Suture
