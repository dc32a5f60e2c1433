/-
  FROM A CONTRACT TO A ROW's STEP: a pair of disks, a pointer, a page that came in.
  Conditions: none beyond each theorem's own.
-/
import Derived.Test.YtmkbchhmeaefeaaFB10
import Derived.Deep.Slices
namespace Suture
open Go Go.Proofs Go.RowKit Go.ChangeShapes Go.WideShapes Go.ChangeAt

section
variable {H : Type} {enc : TypeId × Value → H}

set_option maxRecDepth 100000 in
theorem open_ptr {W : World} {v : Value} {d : DataW H} {ps : List MemPlace} {r : Reach} {base : Nat} (hval : Value.okWide Try.prog W r base 48 v) (h : DataW.Trod enc Try.prog W 0 (fun _ => true) true 48 v d ps) :
    ∃ x : Ptr, x.ok ∧ v = .agg x.cells := by
  obtain ⟨ys, rfl, hs⟩ := okWide_struct Try.underlying48 hval
  obtain ⟨fuel, hf⟩ := h
  have c0 : Try.prog.cellsOf 48 = 5 := by kernel_rfl
  have c1 : Try.prog.cellsOf 5 = 1 := by kernel_rfl
  have c2 : Try.prog.cellsOf 44 = 1 := by kernel_rfl
  have c3 : Try.prog.cellsOf 46 = 1 := by kernel_rfl
  have c4 : Try.prog.cellsOf 24 = 1 := by kernel_rfl
  have c5 : Try.prog.cellsOf 45 = 2 := by kernel_rfl
  rw [c0] at hs
  obtain ⟨xs, n, rfl, _, hl, hx, hat⟩ := DataW.trod_struct Try.underlying48 hf
  have g : ∀ i, i < 4 → ∃ y, xs[i]? = some y := fun i hi => ⟨_, List.getElem?_eq_getElem (by rw [hx]; exact hi)⟩
  obtain ⟨y0, e0⟩ := g 0 (by decide)
  obtain ⟨y1, e1⟩ := g 1 (by decide)
  obtain ⟨y2, e2⟩ := g 2 (by decide)
  obtain ⟨y3, e3⟩ := g 3 (by decide)
  have t0 : DataW.trod enc Try.prog W 0 (fun _ => true) true n 5 ((ys.toList.drop 0).take (Try.prog.cellsOf 5)) = some y0 := (hat 0 _ rfl).trans e0
  have t1 : DataW.trod enc Try.prog W 0 (fun _ => true) true n 45 ((ys.toList.drop 1).take (Try.prog.cellsOf 45)) = some y1 := (hat 1 _ rfl).trans e1
  have t2 : DataW.trod enc Try.prog W 0 (fun _ => true) true n 46 ((ys.toList.drop 3).take (Try.prog.cellsOf 46)) = some y2 := (hat 2 _ rfl).trans e2
  have t3 : DataW.trod enc Try.prog W 0 (fun _ => true) true n 24 ((ys.toList.drop 4).take (Try.prog.cellsOf 24)) = some y3 := (hat 3 _ rfl).trans e3
  rw [c1] at t0
  rw [c5] at t1
  rw [c3] at t2
  rw [c4] at t3
  obtain ⟨kd, k0, _, w0⟩ := DataW.trod_int Try.underlying5 t0
  obtain ⟨zs, m, rfl, _, _, hz, hzt⟩ := DataW.trod_array Try.underlying45 t1
  obtain ⟨bi, k2, _, w2⟩ := DataW.trod_int Try.underlying46 t2
  obtain ⟨su, k3, _, w3⟩ := DataW.trod_int Try.underlying24 t3
  have u0 := (hzt 0 (by decide)).trans (List.getElem?_eq_getElem (by rw [hz]; decide))
  have u1 := (hzt 1 (by decide)).trans (List.getElem?_eq_getElem (by rw [hz]; decide))
  obtain ⟨a0, k10, _, w10⟩ := DataW.trod_int Try.underlying44 u0
  obtain ⟨a1, k11, _, w11⟩ := DataW.trod_int Try.underlying44 u1
  rw [c2] at k10 k11
  clear t0 t1 t2 t3 u0 u1 hat hzt hf e0 e1 e2 e3 g hval
  obtain ⟨l⟩ := ys
  match l, hs with
  | [p0, p1, p2, p3, p4], _ =>
    simp at k0 k2 k3 k10 k11
    subst k0 k2 k3 k10 k11
    have b0 : 0 ≤ kd ∧ kd ≤ 255 := by simpa [Lit.wf, IntKind.min, IntKind.max, IntKind.signed, IntKind.bits] using w0
    have b1 : 0 ≤ a0 ∧ a0 ≤ 65535 := by simpa [Lit.wf, IntKind.min, IntKind.max, IntKind.signed, IntKind.bits] using w10
    have b2 : 0 ≤ a1 ∧ a1 ≤ 65535 := by simpa [Lit.wf, IntKind.min, IntKind.max, IntKind.signed, IntKind.bits] using w11
    have b3 : 0 ≤ bi ∧ bi ≤ 4294967295 := by simpa [Lit.wf, IntKind.min, IntKind.max, IntKind.signed, IntKind.bits] using w2
    exact ⟨⟨kd, a0, a1, bi, BitVec.ofInt 64 su⟩, ⟨b0, b1, b2, b3⟩, by rw [u64_of w3]; rfl⟩

theorem in64_of {a : Int} (h : (Lit.int .i64 a).wf = true) : in64 a := by
  simpa [in64, Lit.wf, IntKind.min, IntKind.max, IntKind.signed, IntKind.bits] using h
set_option maxRecDepth 100000 in
/-- a row of bytes, as cells -/
theorem page_of {W : World} {cs : List Value} {fuel : Nat} {x : DataW H × List MemPlace} (h : DataW.trod enc Try.prog W 0 (fun _ => true) true fuel 32 cs = some x) : ∃ p : List (BitVec 8), p.length = 256 ∧ cs = pageL p := by
  have cN : Try.prog.cellsOf 32 = 256 := by kernel_rfl
  have c1 : Try.prog.cellsOf 5 = 1 := by kernel_rfl
  obtain ⟨xs, m, rfl, _, hl, hx, hat⟩ := DataW.trod_array Try.underlying32 h
  rw [cN] at hl
  have hi : ∀ i, i < 256 → ∃ z, cs[i]? = some (.int .u8 z) ∧ (Lit.int .u8 z).wf = true := fun i hi => by
    have h2 := hat i hi
    rw [List.getElem?_eq_getElem (by omega), c1, Nat.mul_one] at h2
    obtain ⟨z, hz, _, hw⟩ := DataW.trod_int Try.underlying5 h2
    refine ⟨z, ?_, hw⟩
    have h0 : ((cs.drop i).take 1)[0]? = some (.int .u8 z) := by rw [hz]; rfl
    rwa [List.getElem?_take_of_lt (by omega), List.getElem?_drop, Nat.add_zero] at h0
  refine ⟨(List.range 256).map fun i => byteOf cs[i]?, by simp, ?_⟩
  apply List.ext_getElem?
  intro i
  unfold pageL
  by_cases h3 : i < 256
  · obtain ⟨z, hz, hw⟩ := hi i h3
    rw [hz, List.getElem?_map, List.getElem?_map, List.getElem?_range h3]
    simp only [Option.map_some, hz, byteOf]
    rw [u8_of hw]
  · rw [List.getElem?_eq_none (by omega), List.getElem?_eq_none (by simp; omega)]
set_option maxRecDepth 100000 in
theorem write_of {W : World} {cs : List Value} {fuel : Nat} {x : DataW H × List MemPlace} (h : DataW.trod enc Try.prog W 0 (fun _ => true) true fuel 75 cs = some x) : ∃ y : Int × List (BitVec 8), (in64 y.1 ∧ y.2.length = 256) ∧ cs = wrL y := by
  have c0 : Try.prog.cellsOf 75 = 257 := by kernel_rfl
  have cN : Try.prog.cellsOf 32 = 256 := by kernel_rfl
  have c1 : Try.prog.cellsOf 3 = 1 := by kernel_rfl
  obtain ⟨xs, n, rfl, _, hl, hx, hat⟩ := DataW.trod_struct Try.underlying75 h
  rw [c0] at hl
  have g : ∀ i, i < 2 → ∃ y, xs[i]? = some y := fun i hi => ⟨_, List.getElem?_eq_getElem (by rw [hx]; exact hi)⟩
  obtain ⟨y0, e0⟩ := g 0 (by decide)
  obtain ⟨y1, e1⟩ := g 1 (by decide)
  have t0 : DataW.trod enc Try.prog W 0 (fun _ => true) true n 3 ((cs.drop 0).take (Try.prog.cellsOf 3)) = some y0 := (hat 0 _ rfl).trans e0
  have t1 : DataW.trod enc Try.prog W 0 (fun _ => true) true n 32 ((cs.drop 1).take (Try.prog.cellsOf 32)) = some y1 := (hat 1 _ rfl).trans e1
  rw [c1] at t0
  rw [cN] at t1
  obtain ⟨a, k0, _, w0⟩ := DataW.trod_int Try.underlying3 t0
  obtain ⟨p, hp, k1⟩ := page_of t1
  refine ⟨(a, p), ⟨in64_of w0, hp⟩, ?_⟩
  have e : cs = cs.take 1 ++ cs.drop 1 := (List.take_append_drop 1 cs).symm
  rw [List.drop_zero] at k0
  rw [List.take_of_length_le (by simp; omega)] at k1
  rw [e, k0, k1]; rfl
theorem int_of {W : World} {cs : List Value} {fuel : Nat} {x : DataW H × List MemPlace} (h : DataW.trod enc Try.prog W 0 (fun _ => true) true fuel 3 cs = some x) : ∃ z : Int, in64 z ∧ cs = intL z := by
  obtain ⟨z, hz, _, hw⟩ := DataW.trod_int Try.underlying3 h
  exact ⟨z, in64_of hw, hz⟩

/-- a slice whose elements read each by a law -/
theorem slice_of {α : Type} [Inhabited α] {W : World} {t e : TypeId} {cs : List Value} {fuel : Nat} {x : DataW H × List MemPlace} {s : Nat} {f : α → List Value} {Q : α → Prop} (ht : Try.prog.underlying t = some (.slice e)) (hs : Try.prog.cellsOf e = s) (hpos : 0 < s) (hf : ∀ a, Q a → (f a).length = s)
    (hel : ∀ cs' n (y : DataW H × List MemPlace), DataW.trod enc Try.prog W 0 (fun _ => true) true n e cs' = some y → ∃ a, Q a ∧ cs' = f a) (h : DataW.trod enc Try.prog W 0 (fun _ => true) true fuel t cs = some x) :
    ∃ a n cap, ∃ l : List α, cs = [.slice a n cap] ∧ CellsAt All W (.slice a n cap) s n (l.map f).flatten ∧ l.length = n ∧ ∀ y ∈ l, Q y := by
  rcases Deep.open_slice ht h with ⟨rfl, _⟩ | ⟨a, len, cap, m, n, D, Pl, rfl, _, hl, hm, hmm, _, hat⟩
  · exact ⟨none, 0, 0, [], rfl, ⟨_, 0, rfl, by simp, by omega, fun j u hu => by simp at hu⟩, rfl, fun y hy => by simp at hy⟩
  · have hml : len ≤ m := by simp only [if_true] at hmm; omega
    obtain ⟨F, hF⟩ := Deep.choose_lt (α := α) (n := len) (p := fun i z => Q z ∧ ∀ j, j < s → W.cell? ((a.add (i * s)).add j) = (f z)[j]?) (fun i hi => by
      obtain ⟨cs', h1, h2⟩ := hat i (by omega)
      rw [hs] at h1
      obtain ⟨_, hlen, hc⟩ := World.cells?_some h1
      obtain ⟨z, hz, rfl⟩ := hel _ _ _ h2
      exact ⟨z, hz, hc⟩)
    unfold maxLen at hm
    have hQ : ∀ y ∈ (List.range len).map F, Q y := fun y hy => by
      obtain ⟨i, hi, rfl⟩ := List.mem_map.1 hy
      exact (hF i (List.mem_range.1 hi)).1
    refine ⟨some a, len, cap, (List.range len).map F, rfl, ⟨_, cap, rfl, ?_, by omega, fun j u hu => ?_⟩, by simp, hQ⟩
    · have : ∀ l : List α, (∀ y ∈ l, Q y) → ((l.map f).flatten).length = l.length * s := by
        intro l
        induction l with
        | nil => intro _; simp
        | cons y l ih =>
          intro hy
          rw [List.map_cons, List.flatten_cons, List.length_append, hf y (hy y (by simp)), ih (fun z hz => hy z (by simp [hz])), List.length_cons, Nat.succ_mul]; omega
      rw [this _ hQ]; simp
    · have hlen : ((((List.range len).map F).map f).flatten).length = len * s := by
        have : ∀ l : List α, (∀ y ∈ l, Q y) → ((l.map f).flatten).length = l.length * s := by
          intro l
          induction l with
          | nil => intro _; simp
          | cons y l ih =>
            intro hy
            rw [List.map_cons, List.flatten_cons, List.length_append, hf y (hy y (by simp)), ih (fun z hz => hy z (by simp [hz])), List.length_cons, Nat.succ_mul]; omega
        rw [this _ hQ]; simp
      have hj := (List.getElem?_eq_some_iff.1 hu).1
      rw [hlen] at hj
      have hi : j / s < len := Nat.div_lt_of_lt_mul (by rw [Nat.mul_comm]; exact hj)
      have hr : j % s < s := Nat.mod_lt _ hpos
      have hl0 : 0 < len := Nat.lt_of_le_of_lt (Nat.zero_le _) hi
      have hjj : j = j / s * s + j % s := by rw [Nat.mul_comm]; exact (Nat.div_add_mod j s).symm
      have h2 := flat_uniform f s ((List.range len).map F) (j / s) (j % s) (F (j / s)) (fun y hy => hf y (hQ y hy)) (by rw [List.getElem?_map, List.getElem?_range hi]; rfl) hr
      rw [← hjj, hu] at h2
      have h3 := (hF (j / s) hi).2 (j % s) hr
      rw [← h2] at h3
      have h0 := (hF 0 hl0).2 0 hpos
      rw [Nat.zero_mul] at h0
      have ha0 : (a.add 0).add 0 = a := by simp [Addr.add]
      rw [ha0, List.getElem?_eq_getElem (by rw [hf _ (hF 0 hl0).1]; exact hpos)] at h0
      obtain ⟨b, off, rfl⟩ := addr_plain h0
      refine ⟨b, off, rfl, trivial, World.block_lt_of_cell? W _ h0, ?_⟩
      rw [Go.WideShapes.add_plain, Go.WideShapes.add_plain] at h3
      rw [show off + j = off + j / s * s + j % s by rw [Nat.add_assoc, ← hjj]]
      exact h3

set_option maxRecDepth 100000 in
theorem disk_of {W : World} {cs : List Value} {fuel : Nat} {x : DataW H × List MemPlace} (h : DataW.trod enc Try.prog W 0 (fun _ => true) true fuel 37 cs = some x) : ∃ (v : DV) (d : Disk), cs = v.cells.toList ∧ DiskAt All W v d := by
  have c0 : Try.prog.cellsOf 37 = 4 := by kernel_rfl
  have c1 : Try.prog.cellsOf 33 = 1 := by kernel_rfl
  have c2 : Try.prog.cellsOf 34 = 1 := by kernel_rfl
  have c3 : Try.prog.cellsOf 35 = 1 := by kernel_rfl
  have c4 : Try.prog.cellsOf 4 = 1 := by kernel_rfl
  obtain ⟨xs, n, rfl, _, hl, hx, hat⟩ := DataW.trod_struct Try.underlying37 h
  rw [c0] at hl
  have g : ∀ i, i < 4 → ∃ y, xs[i]? = some y := fun i hi => ⟨_, List.getElem?_eq_getElem (by rw [hx]; exact hi)⟩
  obtain ⟨y0, e0⟩ := g 0 (by decide)
  obtain ⟨y1, e1⟩ := g 1 (by decide)
  obtain ⟨y2, e2⟩ := g 2 (by decide)
  obtain ⟨y3, e3⟩ := g 3 (by decide)
  have t0 : DataW.trod enc Try.prog W 0 (fun _ => true) true n 33 ((cs.drop 0).take (Try.prog.cellsOf 33)) = some y0 := (hat 0 _ rfl).trans e0
  have t1 : DataW.trod enc Try.prog W 0 (fun _ => true) true n 34 ((cs.drop 1).take (Try.prog.cellsOf 34)) = some y1 := (hat 1 _ rfl).trans e1
  have t2 : DataW.trod enc Try.prog W 0 (fun _ => true) true n 35 ((cs.drop 2).take (Try.prog.cellsOf 35)) = some y2 := (hat 2 _ rfl).trans e2
  have t3 : DataW.trod enc Try.prog W 0 (fun _ => true) true n 4 ((cs.drop 3).take (Try.prog.cellsOf 4)) = some y3 := (hat 3 _ rfl).trans e3
  rw [c1] at t0
  rw [c2] at t1
  rw [c3] at t2
  rw [c4] at t3
  obtain ⟨pa, pn, pc, lp, k0, hp, np, qp⟩ := slice_of (f := pageL) (Q := fun p : List (BitVec 8) => p.length = 256) Try.underlying33 (by kernel_rfl : Try.prog.cellsOf 32 = 256) (by omega) (fun p hp => by rw [pageL_length, hp]) (fun _ _ _ h => page_of h) t0
  obtain ⟨ca, cn, cc, lc, k1, hc, nc, qc⟩ := slice_of (f := wrL) (Q := fun y : Int × List (BitVec 8) => in64 y.1 ∧ y.2.length = 256) Try.underlying34 (by kernel_rfl : Try.prog.cellsOf 75 = 257) (by omega) (fun y hy => by rw [wrL_length, hy.2]) (fun _ _ _ h => write_of h) t1
  obtain ⟨ba, bn, bc, lb, k2, hb, nb, qb⟩ := slice_of (f := intL) (Q := in64) Try.underlying35 (by kernel_rfl : Try.prog.cellsOf 3 = 1) (by omega) (fun z _ => rfl) (fun _ _ _ h => int_of h) t2
  obtain ⟨off, k3, _⟩ := DataW.trod_bool Try.underlying4 t3
  refine ⟨⟨pa, pn, pc, ca, cn, cc, ba, bn, bc, off⟩, ⟨lp, lc, lb, off⟩, ?_, ⟨hp, np, hc, nc, hb, nb, rfl, ⟨qp, qc, qb⟩⟩⟩
  match cs, hl with
  | [p0, p1, p2, p3], _ =>
    simp at k0 k1 k2 k3
    subst k0 k1 k2 k3
    rfl
set_option maxRecDepth 100000 in
/-- a pair that came in -/
theorem open_pair {W : World} {v : Value} {d : DataW H} {ps : List MemPlace} {r : Reach} {base : Nat} (hval : Value.okWide Try.prog W r base 40 v) (h : DataW.Trod enc Try.prog W 0 (fun _ => true) true 40 v d ps) :
    ∃ (vp : PV) (P : Pair), v = .agg vp.cells ∧ PairAt All W vp P := by
  obtain ⟨ys, rfl, hs⟩ := okWide_struct Try.underlying40 hval
  obtain ⟨fuel, hf⟩ := h
  have c0 : Try.prog.cellsOf 40 = 10 := by kernel_rfl
  have c1 : Try.prog.cellsOf 38 = 8 := by kernel_rfl
  have c2 : Try.prog.cellsOf 3 = 1 := by kernel_rfl
  have c3 : Try.prog.cellsOf 4 = 1 := by kernel_rfl
  have c4 : Try.prog.cellsOf 37 = 4 := by kernel_rfl
  rw [c0] at hs
  obtain ⟨xs, n, rfl, _, hl, hx, hat⟩ := DataW.trod_struct Try.underlying40 hf
  have g : ∀ i, i < 3 → ∃ y, xs[i]? = some y := fun i hi => ⟨_, List.getElem?_eq_getElem (by rw [hx]; exact hi)⟩
  obtain ⟨y0, e0⟩ := g 0 (by decide)
  obtain ⟨y1, e1⟩ := g 1 (by decide)
  obtain ⟨y2, e2⟩ := g 2 (by decide)
  have t0 : DataW.trod enc Try.prog W 0 (fun _ => true) true n 38 ((ys.toList.drop 0).take (Try.prog.cellsOf 38)) = some y0 := (hat 0 _ rfl).trans e0
  have t1 : DataW.trod enc Try.prog W 0 (fun _ => true) true n 3 ((ys.toList.drop 8).take (Try.prog.cellsOf 3)) = some y1 := (hat 1 _ rfl).trans e1
  have t2 : DataW.trod enc Try.prog W 0 (fun _ => true) true n 4 ((ys.toList.drop 9).take (Try.prog.cellsOf 4)) = some y2 := (hat 2 _ rfl).trans e2
  rw [c1] at t0
  rw [c2] at t1
  rw [c3] at t2
  obtain ⟨zs, m, rfl, _, _, hz, hzt⟩ := DataW.trod_array Try.underlying38 t0
  have u0 := (hzt 0 (by decide)).trans (List.getElem?_eq_getElem (by rw [hz]; decide))
  have u1 := (hzt 1 (by decide)).trans (List.getElem?_eq_getElem (by rw [hz]; decide))
  rw [c4] at u0 u1
  obtain ⟨v0, d0, k0, h0⟩ := disk_of u0
  obtain ⟨v1, d1, k1, h1⟩ := disk_of u1
  obtain ⟨fu, k2, _, w2⟩ := DataW.trod_int Try.underlying3 t1
  obtain ⟨dn, k3, _⟩ := DataW.trod_bool Try.underlying4 t2
  refine ⟨⟨v0, v1, fu, dn⟩, ⟨d0, d1, fu, dn⟩, ?_, ⟨h0, h1, rfl, rfl, in64_of w2⟩⟩
  clear t0 t1 t2 u0 u1 hat hzt hf e0 e1 e2 g hval
  obtain ⟨l⟩ := ys
  match l, hs with
  | [p0, p1, p2, p3, p4, p5, p6, p7, p8, p9], _ =>
    simp [DV.cells] at k0 k1 k2 k3
    obtain ⟨rfl, rfl, rfl, rfl⟩ := k0
    obtain ⟨rfl, rfl, rfl, rfl⟩ := k1
    subst k2 k3
    rfl
end
end Suture
