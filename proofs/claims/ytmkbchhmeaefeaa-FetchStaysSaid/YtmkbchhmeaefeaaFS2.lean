/-
  FetchStays's LOOP: the other page put on all copies but one; then a disk taken off.
  Conditions: none beyond the pair's own reading.
-/
import Derived.Test.YtmkbchhmeaefeaaFS1
namespace Suture
open Go Go.RowKit Go.Proofs
attribute [local go_sem] Oper.semAt_some

def vSt (g cap nc i d : Nat) (vi : PV) (at' : Int) (p : List (BitVec 8)) : Nat → Value → Prop
  | 0, val => val = .agg vi.cells
  | 1, val => val = .slice (some ⟨g, 0, none⟩) nc cap
  | 2, val => val = .int .i64 (i : Int)
  | 3, val => val = .pointer (some ⟨g, 0 + i * 2, none⟩)
  | 4, val => val = .pointer (some ⟨g, 0 + i * 2 + 0 * 1, none⟩)
  | 5, val => val = .int .i64 (d : Int)
  | 6, val => val = .slice (some ⟨g, 0, none⟩) nc cap
  | 7, val => val = .int .i64 (i : Int)
  | 8, val => val = .pointer (some ⟨g, 0 + i * 2, none⟩)
  | 9, val => val = .pointer (some ⟨g, 0 + i * 2 + 1 * 1, none⟩)
  | 10, val => val = .int .i64 at'
  | 11, val => val = .agg (pageCells p)
  | 12, val => ∃ q : PV, val = .tuple #[.agg q.cells, .int .i64 0]
  | 13, val => ∃ q : PV, val = .tuple #[.agg q.cells, .int .i64 0]
  | 14, val => ∃ q : PV, val = .agg q.cells
  | 15, val => val = .int .i64 0
  | 16, val => val = undef
  | _, _ => True

/-- all copies but one, up to the i-th -/
def others (x : Ptr) (kc : Int × Int) (i : Nat) : List (Int × Int) := (x.copies.take i).filter (· != kc)
theorem others_snoc {x : Ptr} (hn : x.copies.Nodup) {i k : Nat} (hi : i < x.copies.length) (hk : k < x.copies.length) : others x (x.copies.getD k (0, 0)) (i + 1) = if i = k then others x (x.copies.getD k (0, 0)) i else others x (x.copies.getD k (0, 0)) i ++ [x.copies.getD i (0, 0)] := by
  unfold others
  have e : ∀ {j : Nat} (hj : j < x.copies.length), x.copies.getD j (0, 0) = x.copies[j] := fun hj => by rw [List.getD_eq_getElem?_getD, List.getElem?_eq_getElem hj]; rfl
  rw [List.take_succ_eq_append_getElem hi, List.filter_append, e hi, e hk]
  split
  · rename_i h
    subst h
    simp
  · rename_i h
    have hne : x.copies[i] ≠ x.copies[k] := fun he => h ((List.getElem_inj hn).1 he)
    rw [List.filter_cons_of_pos (by simpa using hne)]
    rfl
theorem others_all {x : Ptr} {kc : Int × Int} {i : Nat} (h : x.copies.length ≤ i) : others x kc i = x.copies.filter (· != kc) := by
  unfold others; rw [List.take_of_length_le h]
theorem others_pre (x : Ptr) (kc : Int × Int) (i : Nat) : x.copies.filter (· != kc) = others x kc i ++ (x.copies.drop i).filter (· != kc) := by
  unfold others; rw [← List.filter_append, List.take_append_drop]

/-- a disk taken off, as the pair's value has it -/
def DV.dropped (v : DV) : DV := { v with ca := none, cn := 0, cc := 0, off := true }
theorem DiskAt.dropped {R : Nat → Prop} {w : World} {v : DV} {d : Disk} (h : DiskAt R w v d) : DiskAt R w v.dropped { d with off := true, cache := [] } :=
  ⟨h.pages, h.pn, ⟨none, 0, rfl, by simp [DV.dropped], ⟨by simp [DV.dropped], by simp [DV.dropped]⟩, fun j u hj => by simp at hj⟩, rfl, h.bad, h.bn, rfl, ⟨h.ok.page, fun x hx => by simp at hx, h.ok.bad⟩⟩
theorem PairAt.dropped {R : Nat → Prop} {w : World} {v : PV} {P : Pair} (h : PairAt R w v P) {j : Nat} (hj : j < 2) : PairAt R w (v.set j (v.disk j).dropped) (P.drop j) := by
  have h1 : j = 0 ∨ j = 1 := by omega
  rcases h1 with rfl | rfl
  · exact ⟨h.d0.dropped, h.d1, h.fuse, h.down, h.in64⟩
  · exact ⟨h.d0, h.d1.dropped, h.fuse, h.down, h.in64⟩
theorem Pair.low.dropped {P : Pair} (h : P.low) {j : Nat} (hj : j < 2) : (P.drop j).low := by
  have h1 : j = 0 ∨ j = 1 := by omega
  rcases h1 with rfl | rfl
  · exact ⟨h.p0, Nat.zero_le _, h.b0, h.p1, h.c1, h.b1⟩
  · exact ⟨h.p0, h.c0, h.b0, h.p1, Nat.zero_le _, h.b1⟩
theorem StW.dropped {w : World} {b7 b8 bp : Nat} {page other : List (BitVec 8)} {v : PV} {P : Pair} {W : World} (h : StW w b7 b8 bp page other v P W) {j o1 o3 : Nat} (hj : j < 2) (e1 : o1 = j * 4 + 1) (e3 : o3 = j * 4 + 3) :
    ∃ W1 W2, W.setCell ⟨bp, o3, none⟩ (.bool true) = W1 ∧ W1.setCell ⟨bp, o1, none⟩ (.slice none 0 0) = W2 ∧ (∃ u, W.cell? ⟨bp, o3, none⟩ = some (.bool u)) ∧ W.frozen? ⟨bp, o3, none⟩ = false ∧ (∃ a n c, W1.cell? ⟨bp, o1, none⟩ = some (.slice a n c)) ∧ W1.frozen? ⟨bp, o1, none⟩ = false ∧
      Agrees (fun b => b ≠ bp) W W1 ∧ Agrees (fun b => b ≠ bp) W W2 ∧ StW w b7 b8 bp page other (v.set j (v.disk j).dropped) (P.drop j) W2 := by
  refine ⟨_, _, rfl, rfl, ?_⟩
  have a1 : Agrees (fun b => b ≠ bp) W (W.setCell ⟨bp, o3, none⟩ (.bool true)) := (Agrees.refl _ _).setCell (.inl fun h => h rfl) _
  have a2 : Agrees (fun b => b ≠ bp) W ((W.setCell ⟨bp, o3, none⟩ (.bool true)).setCell ⟨bp, o1, none⟩ (.slice none 0 0)) := a1.setCell (.inl fun h => h rfl) _
  have r1 : (W.setCell ⟨bp, o3, none⟩ (.bool true)).heap[bp]? = some (.cells (v.cells.setIfInBounds o3 (.bool true)) 40 (0, 0)) := heap_setCell_same _ _ _ _ _ _ h.r15
  have r2 : ((W.setCell ⟨bp, o3, none⟩ (.bool true)).setCell ⟨bp, o1, none⟩ (.slice none 0 0)).heap[bp]? = some (.cells ((v.cells.setIfInBounds o3 (.bool true)).setIfInBounds o1 (.slice none 0 0)) 40 (0, 0)) := heap_setCell_same _ _ _ _ _ _ r1
  have h1 : j = 0 ∨ j = 1 := by omega
  rcases h1 with rfl | rfl
  · obtain rfl : o1 = 1 := by omega
    obtain rfl : o3 = 3 := by omega
    exact ⟨⟨_, by rw [cell_of_row _ _ _ _ _ _ h.r15]; rfl⟩, frozen_of_row _ _ _ _ _ h.r15, ⟨_, _, _, by rw [cell_of_row _ _ _ _ _ _ r1]; rfl⟩, frozen_of_row _ _ _ _ _ r1, a1, a2, h.over a2 r2 ((h.pair.agrees a2 fun _ h => h).dropped hj)⟩
  · obtain rfl : o1 = 5 := by omega
    obtain rfl : o3 = 7 := by omega
    exact ⟨⟨_, by rw [cell_of_row _ _ _ _ _ _ h.r15]; rfl⟩, frozen_of_row _ _ _ _ _ h.r15, ⟨_, _, _, by rw [cell_of_row _ _ _ _ _ _ r1]; rfl⟩, frozen_of_row _ _ _ _ _ r1, a1, a2, h.over a2 r2 ((h.pair.agrees a2 fun _ h => h).dropped hj)⟩

set_option maxHeartbeats 16000000 in
set_option maxRecDepth 100000 in
theorem stays_loop : ∀ c, cR (cR (cR (cR (cR (cR (cR (cR (cR (cR (Try.f6.body)))))))))) = some c → ∀ (Q : Exit → Act → World → Prop) (w W : World) (b7 b8 bp bx g cap nc k : Nat) (x : Ptr) (page other : List (BitVec 8)) (off : Bool) (v : PV) (u : Nat → Value),
    x.ok → page.length = 256 → other.length = 256 → x.right 32 = true → x.fits page = true → x.fits other = false → (∀ c ∈ x.copies, onPair c ∧ 0 ≤ c.2 ∧ c.2 < 32) → x.copies.Nodup → x.copies.length = nc → k < nc →
    StW w b7 b8 bp page other v (freshP.puts page x.copies) W → W.heap[bx]? = some (.cells x.cells 48 (0, 0)) → bx ≠ bp → g < W.heap.size → g ≠ bp → (∀ i, i < nc → ∀ j, j < 2 → W.cell? ⟨g, i * 2 + j, none⟩ = (copyL (x.copies.getD i (0, 0))).toArray[j]?) →
    (∀ a' W', a'.defers = [] → a'.tmps[14]? = some (.bool true) → Agrees All w W' → Q .ret a' W') →
    c.wp Try.prog Q { tmps := (u 0 :: u 1 :: u 2 :: u 3 :: u 4 :: (.int .i64 (k : Int) : Value) :: (.bool off : Value) :: (.pointer (some ⟨b7, 0, none⟩) : Value) :: (.pointer (some ⟨b8, 0, none⟩) : Value) :: u 9 :: u 10 :: u 11 :: u 12 :: u 13 :: (.bool false : Value) :: (.pointer (some ⟨bp, 0, none⟩) : Value) :: u 16 :: (.pointer (some ⟨bx, 0, none⟩) : Value) :: u 18 :: (.slice (some ⟨g, 0, none⟩) nc cap : Value) :: u 20 :: u 21 :: u 22 :: u 23 :: u 24 :: u 25 :: u 26 :: u 27 :: u 28 :: u 29 :: u 30 :: u 31 :: u 32 :: u 33 :: u 34 :: u 35 :: u 36 :: u 37 :: u 38 :: u 39 :: u 40 :: u 41 :: u 42 :: u 43 :: u 44 :: u 45 :: u 46 :: u 47 :: u 48 :: u 49 :: u 50 :: u 51 :: u 52 :: u 53 :: u 54 :: u 55 :: u 56 :: u 57 :: u 58 :: u 59 :: u 60 :: u 61 :: u 62 :: u 63 :: u 64 :: u 65 :: u 66 :: u 67 :: u 68 :: u 69 :: u 70 :: u 71 :: u 72 :: u 73 :: u 74 :: u 75 :: u 76 :: u 77 :: u 78 :: u 79 :: u 80 :: u 81 :: u 82 :: u 83 :: u 84 :: u 85 :: u 86 :: u 87 :: u 88 :: u 89 :: u 90 :: u 91 :: u 92 :: u 93 :: u 94 :: u 95 :: u 96 :: u 97 :: u 98 :: u 99 :: u 100 :: u 101 :: u 102 :: u 103 :: u 104 :: u 105 :: u 106 :: u 107 :: u 108 :: u 109 :: u 110 :: u 111 :: u 112 :: u 113 :: u 114 :: u 115 :: u 116 :: u 117 :: u 118 :: u 119 :: u 120 :: u 121 :: u 122 :: u 123 :: u 124 :: u 125 :: u 126 :: u 127 :: u 128 :: u 129 :: u 130 :: u 131 :: u 132 :: u 133 :: u 134 :: u 135 :: u 136 :: u 137 :: u 138 :: u 139 :: u 140 :: u 141 :: u 142 :: u 143 :: u 144 :: u 145 :: u 146 :: u 147 :: u 148 :: u 149 :: u 150 :: u 151 :: u 152 :: u 153 :: u 154 :: u 155 :: u 156 :: u 157 :: u 158 :: u 159 :: u 160 :: u 161 :: u 162 :: u 163 :: u 164 :: u 165 :: u 166 :: u 167 :: u 168 :: u 169 :: u 170 :: u 171 :: u 172 :: u 173 :: u 174 :: u 175 :: u 176 :: []).toArray, defers := [] } W := by
  intro c hc
  have hd := part_eq hc rfl
  subst hd
  clear hc
  intro Q w W b7 b8 bp bx g cap nc k x page other off v u hx hpl hol hrt hf ho hcp hnd hnc hk hS hrx hxb hgl hng hgc hQ
  refine wp_cut2 (Here (fun (_ : Unit) u => (u 0 :: u 1 :: u 2 :: u 3 :: u 4 :: u 5 :: u 6 :: (.pointer (some ⟨b7, 0, none⟩) : Value) :: u 8 :: u 9 :: u 10 :: u 11 :: u 12 :: u 13 :: (.bool false : Value) :: (.pointer (some ⟨bp, 0, none⟩) : Value) :: u 16 :: (.pointer (some ⟨bx, 0, none⟩) : Value) :: u 18 :: u 19 :: u 20 :: u 21 :: u 22 :: u 23 :: u 24 :: u 25 :: u 26 :: u 27 :: u 28 :: u 29 :: u 30 :: u 31 :: u 32 :: u 33 :: u 34 :: u 35 :: u 36 :: u 37 :: u 38 :: u 39 :: u 40 :: u 41 :: u 42 :: u 43 :: u 44 :: u 45 :: u 46 :: u 47 :: u 48 :: u 49 :: u 50 :: u 51 :: u 52 :: u 53 :: u 54 :: u 55 :: u 56 :: u 57 :: u 58 :: u 59 :: u 60 :: u 61 :: u 62 :: u 63 :: u 64 :: u 65 :: u 66 :: u 67 :: u 68 :: u 69 :: u 70 :: u 71 :: u 72 :: u 73 :: u 74 :: u 75 :: u 76 :: u 77 :: u 78 :: u 79 :: u 80 :: u 81 :: u 82 :: u 83 :: u 84 :: u 85 :: u 86 :: u 87 :: u 88 :: u 89 :: u 90 :: u 91 :: u 92 :: u 93 :: u 94 :: u 95 :: u 96 :: u 97 :: u 98 :: u 99 :: u 100 :: u 101 :: u 102 :: u 103 :: u 104 :: u 105 :: u 106 :: u 107 :: u 108 :: u 109 :: u 110 :: u 111 :: u 112 :: u 113 :: u 114 :: u 115 :: u 116 :: u 117 :: u 118 :: u 119 :: u 120 :: u 121 :: u 122 :: u 123 :: u 124 :: u 125 :: u 126 :: u 127 :: u 128 :: u 129 :: u 130 :: u 131 :: u 132 :: u 133 :: u 134 :: u 135 :: u 136 :: u 137 :: u 138 :: u 139 :: u 140 :: u 141 :: u 142 :: u 143 :: u 144 :: u 145 :: u 146 :: u 147 :: u 148 :: u 149 :: u 150 :: u 151 :: u 152 :: u 153 :: u 154 :: u 155 :: u 156 :: u 157 :: u 158 :: u 159 :: u 160 :: u 161 :: u 162 :: u 163 :: u 164 :: u 165 :: u 166 :: u 167 :: u 168 :: u 169 :: u 170 :: u 171 :: u 172 :: u 173 :: u 174 :: u 175 :: u 176 :: []).toArray) (fun _ W' => ∃ v' P', StW w b7 b8 bp page other v' P' W' ∧ W'.heap[bx]? = some (.cells x.cells 48 (0, 0)) ∧ P'.low ∧ Kept 8 P' x page other)) ?part1 ?part2
  case part2 =>
    rintro a' W' ⟨_, u2, rfl, v', P', h1, h2, h3, h4⟩
    exact stays_end _ rfl Q w W' b7 b8 bp bx x page other v' P' u2 hx hpl hf ho h1 h2 h3 h4 hQ
  case part1 =>
    intro K1 hK1
    obtain ⟨kc, hkc⟩ : ∃ kc, x.copies.getD k (0, 0) = kc := ⟨_, rfl⟩
    have hkm : kc ∈ x.copies := by rw [← hkc, List.getD_eq_getElem?_getD, List.getElem?_eq_getElem (by omega)]; exact List.getElem_mem _
    obtain ⟨s1, s2, s3, s4⟩ := spoilt_kept hcp hrt page other hkm
    have HOT := Lib.hid (fun i (hi : i < nc) => others_snoc hnd (i := i) (k := k) (by omega) (by omega))
    rw [hkc] at HOT
    have HALL := Lib.hid (others_all (x := x) (kc := kc) (i := nc) (by omega))
    have HPE := Lib.hid (fun i => puts_pre s1 (others_pre x kc i))
    have HSP : RowKit.Hid (Kept 8 (spoilt x page other kc) x page other ∧ (∀ d, d < 2 → ((spoilt x page other kc).disk d).off = false) ∧ ((spoilt x page other kc).disk kc.1.toNat).read kc.2 = (page, 0)) := Lib.hid ⟨s2, s3, s4⟩
    have HLOW := Lib.hid (fun i => puts_low (puts_low lowF page x.copies) other (others x kc i))
    have HKC : RowKit.Hid (kc ∈ x.copies ∧ onPair kc) := Lib.hid ⟨hkm, (hcp kc hkm).1⟩
    have HCP := Lib.hid hcp
    have HOL := Lib.hid hol
    have HGC := Lib.hid hgc
    have HGL := Lib.hid hgl
    have HRX := Lib.hid hrx
    have HK1 := Lib.hid hkc
    have HNC := Lib.hid hnc
    have H0 : RowKit.Hid (∃ vi, StW w b7 b8 bp page other vi ((freshP.puts page x.copies).puts other (others x kc 0)) W ∧ Agrees (fun b => b ≠ bp) W W) := Lib.hid ⟨v, hS, Agrees.refl _ _⟩
    have hn8 : b8 ≠ bp := hS.ne.2.1
    have hnc4 : nc ≤ 4 := by have := copies_le x; omega
    clear s1 s2 s3 s4 hkm hnd hrt hcp hol hgc hgl hrx hkc hS hQ hf ho hpl hx hnc
    go_wp2_with fail
    go_loopw [20] (fun ii wr => ∃ i : Nat, i ≤ nc ∧ ii = .int .i64 i ∧ RowKit.Hid (∃ vi, StW w b7 b8 bp page other vi ((freshP.puts page x.copies).puts other (others x kc i)) wr ∧ Agrees (fun b => b ≠ bp) W wr)) (fun ii _ => nc - (intOf ii).toNat)
    case atStart => exact ⟨0, by omega, rfl, H0⟩
    case round =>
      obtain ⟨i, hi, rfl, HW⟩ := hrel
      obtain ⟨vi, hbx, hagw⟩ := HW.out
      have HBX := Lib.hid hbx
      have HAW := Lib.hid hagw
      clear HW hbx hagw
      by_cases hlt : i < nc
      · have hot := HOT.out i hlt
        by_cases hik : i = k
        · subst hik
          rw [if_pos rfl] at hot
          have HOI := Lib.hid hot
          clear hot
          go_wp2_with fail
          exact ⟨⟨i + 1, by omega, by simp, Lib.hid ⟨vi, by rw [HOI.out]; exact HBX.out, HAW.out⟩⟩, by simp [intOf]; omega⟩
        · rw [if_neg hik] at hot
          obtain ⟨cc, hcc⟩ : ∃ cc, x.copies.getD i (0, 0) = cc := ⟨_, rfl⟩
          rw [hcc] at hot
          have hmem : cc ∈ x.copies := by rw [← hcc, List.getD_eq_getElem?_getD, List.getElem?_eq_getElem (by rw [HNC.out]; exact hlt)]; exact List.getElem_mem _
          obtain ⟨hon, h0a, h1a⟩ := HCP.out cc hmem
          have hps := puts_snoc (c := cc) (HPE.out i)
          rw [← hot, HPE.out (i + 1)] at hps
          have hcell : ∀ j, j < 2 → wr.cell? ⟨g, i * 2 + j, none⟩ = (copyL cc).toArray[j]? := fun j hj => by rw [← hcc, ← HGC.out i hlt j hj]; exact HAW.out.cell (p := ⟨g, i * 2 + j, none⟩) HGL.out hng
          obtain ⟨dk, at'⟩ := cc
          have hdk : dk = 0 ∨ dk = 1 := hon
          simp only at h0a h1a
          obtain ⟨d, rfl⟩ : ∃ d : Nat, dk = d := ⟨dk.toNat, by omega⟩
          have hd2 : d < 2 := by omega
          simp only [Int.toNat_natCast] at hps
          obtain ⟨W0, hW0⟩ : ∃ W0, wr.drew = W0 := ⟨_, rfl⟩
          have HD := Lib.hid (show Agrees All wr W0 by rw [← hW0]; exact (Agrees.refl _ _).drew)
          have HB0 : RowKit.Hid (StW w b7 b8 bp page other vi ((freshP.puts page x.copies).puts other (others x kc i)) W0) := Lib.hid (HBX.out.agrees HD.out)
          have HPT : RowKit.Hid (∀ W', Agrees (fun b => b ≠ bp) W0 W' → Calls Try.prog 21 #[.agg vi.cells, .int .i64 d, .int .i64 at', .agg (pageCells other)] W' fun e w' => ∃ v' : PV, e = .returned (.tuple #[.agg v'.cells, .int .i64 0]) ∧ RowKit.Hid (PairAt (fun k => k ≠ bp ∨ W'.heap.size ≤ k) w' v' ((freshP.puts page x.copies).puts other (others x kc (i + 1))) ∧ Agrees All W' w')) := by
            refine Lib.hid fun W' g' => ?_
            have h := rput_calls (fun b => b ≠ bp) vi ((freshP.puts page x.copies).puts other (others x kc i)) d hd2 at' other HOL.out (by unfold in64; omega) W' (HB0.out.pair.agrees g' fun _ h => h) (HB0.out.pair.small (HLOW.out i))
            rw [← hps.1, ← hps.2] at h
            exact h
          have hc0e : (0 : Nat) + i * 2 + 0 * 1 = i * 2 + 0 := by omega
          have hc1e : (0 : Nat) + i * 2 + 1 * 1 = i * 2 + 1 := by omega
          have hgw : g < wr.heap.size := Nat.lt_of_lt_of_le HGL.out HAW.out.size
          have HC0 := Lib.hid (show W0.cell? ⟨g, 0 + i * 2 + 0 * 1, none⟩ = some (.int .i64 (d : Int)) by rw [hc0e]; exact (HD.out.cell (p := ⟨g, i * 2 + 0, none⟩) hgw trivial).trans (hcell 0 (by omega)))
          have HC1 := Lib.hid (show W0.cell? ⟨g, 0 + i * 2 + 1 * 1, none⟩ = some (.int .i64 at') by rw [hc1e]; exact (HD.out.cell (p := ⟨g, i * 2 + 1, none⟩) hgw trivial).trans (hcell 1 (by omega)))
          have HGW := Lib.hid (show g < W0.heap.size from Nat.lt_of_lt_of_le hgw HD.out.size)
          have HAW0 := Lib.hid (HAW.out.trans HD.out.weak)
          have hne : ((i : Int) != (k : Int)) = true := by simp; omega
          have hne' : ((i : Int) == (k : Int)) = false := by simp; omega
          clear hc0e hc1e hcell hmem hcc hot hps hon h0a h1a hdk hgw HD
          go_wp2_with fail
          clear hne hne'
          have hgr := HB0.out.r8
          have hgl := HGW.out
          have hc0 := HC0.out
          have hc1 := HC1.out
          have hp := HOL.out
          refine wp_region_plan (by kernel_rfl) ?hok (by kernel_rfl) (vSt g cap nc i d vi at' other) (PutX 12 13 14 16 bp vi W0 0 ((freshP.puts page x.copies).puts other (others x kc (i + 1)))) ?h0 (fun m hm => ?steps) ?hend
          case hok => kernel_rfl
          case h0 =>
            intro vals
            rw [hW0]
            exact ⟨Agrees.refl _ _, (fun h => by cases h), (fun h => by cases h), (fun h => by cases h), by rw [if_neg Bool.false_ne_true]; exact HB0.out.r15⟩
          case steps =>
            have hm' : m < 17 := hm
            match m, hm' with
            | 0, _ =>
              refine steps_of rfl ?_
              intro L aq wq hL hd st wi
              have o15 := st.outside (t := 15) rfl (v := .pointer (some ⟨bp, 0, none⟩)) rfl
              have hn16 : L 16 = false := by
                cases h : L 16
                · rfl
                · have := st.closed 16 _ rfl h ⟨0, .phase⟩ (by simp) rfl
                  rw [hL] at this; cases this
              have hrow := wi.bx
              rw [hn16, if_neg Bool.false_ne_true] at hrow
              exact opTo_val (v := .agg vi.cells) rfl (ex_load rfl isAgg_pair bp 0 (eval_tmp o15) vi.cells rfl (vi.load hrow)) ⟨(fun h => by cases h), rfl, wi.other (by decide) (by decide) (by decide) (by decide) _⟩
            | 1, _ =>
              refine steps_of rfl ?_
              intro L aq wq hL hd st wi
              have o19 := st.outside (t := 19) rfl (v := .slice (some ⟨g, 0, none⟩) nc cap) rfl
              exact opTo_val (v := .slice (some ⟨g, 0, none⟩) nc cap) rfl (ex_move (.inl rfl) (eval_tmp o19)) ⟨(fun h => by cases h), rfl, wi.other (by decide) (by decide) (by decide) (by decide) _⟩
            | 2, _ =>
              refine steps_of rfl ?_
              intro L aq wq hL hd st wi
              have o20 := st.outside (t := 20) rfl (v := .int .i64 (i : Int)) rfl
              exact opTo_val (v := .int .i64 (i : Int)) rfl (ex_move (.inl rfl) (eval_tmp o20)) ⟨(fun h => by cases h), rfl, wi.other (by decide) (by decide) (by decide) (by decide) _⟩
            | 3, _ =>
              refine steps_of rfl ?_
              intro L aq wq hL hd st wi
              obtain ⟨u1, e1, V1⟩ := st.val 1 _ _ rfl rfl (hd ⟨1, .data⟩ (by simp) rfl)
              obtain rfl : .slice (some ⟨g, 0, none⟩) nc cap = u1 := V1.symm
              obtain ⟨u2, e2, V2⟩ := st.val 2 _ _ rfl rfl (hd ⟨2, .data⟩ (by simp) rfl)
              obtain rfl : .int .i64 (i : Int) = u2 := V2.symm
              exact opTo_val (v := .pointer (some ⟨g, 0 + i * 2, none⟩)) rfl (ex_idx rfl Try.underlying52 isAgg_two.2 g 0 nc cap i (eval_tmp e1) (eval_tmp e2) hlt) ⟨(fun h => by cases h), rfl, wi.other (by decide) (by decide) (by decide) (by decide) _⟩
            | 4, _ =>
              refine steps_of rfl ?_
              intro L aq wq hL hd st wi
              obtain ⟨u3, e3, V3⟩ := st.val 3 _ _ rfl rfl (hd ⟨3, .data⟩ (by simp) rfl)
              obtain rfl : .pointer (some ⟨g, 0 + i * 2, none⟩) = u3 := V3.symm
              exact opTo_val (v := .pointer (some ⟨g, 0 + i * 2 + 0 * 1, none⟩)) rfl (ex_idxArr rfl Try.underlying55 oneInt.2 g (0 + i * 2) 0 (eval_tmp e3) rfl (by omega)) ⟨(fun h => by cases h), rfl, wi.other (by decide) (by decide) (by decide) (by decide) _⟩
            | 5, _ =>
              refine steps_of rfl ?_
              intro L aq wq hL hd st wi
              obtain ⟨u4, e4, V4⟩ := st.val 4 _ _ rfl rfl (hd ⟨4, .data⟩ (by simp) rfl)
              obtain rfl : .pointer (some ⟨g, 0 + i * 2 + 0 * 1, none⟩) = u4 := V4.symm
              exact opTo_val (v := .int .i64 (d : Int)) rfl (ex_load1 rfl oneInt (eval_tmp e4) ((wi.ag.cell (p := ⟨g, 0 + i * 2 + 0 * 1, none⟩) hgl hng).trans hc0)) ⟨(fun h => by cases h), rfl, wi.other (by decide) (by decide) (by decide) (by decide) _⟩
            | 6, _ =>
              refine steps_of rfl ?_
              intro L aq wq hL hd st wi
              have o19 := st.outside (t := 19) rfl (v := .slice (some ⟨g, 0, none⟩) nc cap) rfl
              exact opTo_val (v := .slice (some ⟨g, 0, none⟩) nc cap) rfl (ex_move (.inl rfl) (eval_tmp o19)) ⟨(fun h => by cases h), rfl, wi.other (by decide) (by decide) (by decide) (by decide) _⟩
            | 7, _ =>
              refine steps_of rfl ?_
              intro L aq wq hL hd st wi
              have o20 := st.outside (t := 20) rfl (v := .int .i64 (i : Int)) rfl
              exact opTo_val (v := .int .i64 (i : Int)) rfl (ex_move (.inl rfl) (eval_tmp o20)) ⟨(fun h => by cases h), rfl, wi.other (by decide) (by decide) (by decide) (by decide) _⟩
            | 8, _ =>
              refine steps_of rfl ?_
              intro L aq wq hL hd st wi
              obtain ⟨u6, e6, V6⟩ := st.val 6 _ _ rfl rfl (hd ⟨6, .data⟩ (by simp) rfl)
              obtain rfl : .slice (some ⟨g, 0, none⟩) nc cap = u6 := V6.symm
              obtain ⟨u7, e7, V7⟩ := st.val 7 _ _ rfl rfl (hd ⟨7, .data⟩ (by simp) rfl)
              obtain rfl : .int .i64 (i : Int) = u7 := V7.symm
              exact opTo_val (v := .pointer (some ⟨g, 0 + i * 2, none⟩)) rfl (ex_idx rfl Try.underlying52 isAgg_two.2 g 0 nc cap i (eval_tmp e6) (eval_tmp e7) hlt) ⟨(fun h => by cases h), rfl, wi.other (by decide) (by decide) (by decide) (by decide) _⟩
            | 9, _ =>
              refine steps_of rfl ?_
              intro L aq wq hL hd st wi
              obtain ⟨u8, e8, V8⟩ := st.val 8 _ _ rfl rfl (hd ⟨8, .data⟩ (by simp) rfl)
              obtain rfl : .pointer (some ⟨g, 0 + i * 2, none⟩) = u8 := V8.symm
              exact opTo_val (v := .pointer (some ⟨g, 0 + i * 2 + 1 * 1, none⟩)) rfl (ex_idxArr rfl Try.underlying55 oneInt.2 g (0 + i * 2) 1 (eval_tmp e8) rfl (by omega)) ⟨(fun h => by cases h), rfl, wi.other (by decide) (by decide) (by decide) (by decide) _⟩
            | 10, _ =>
              refine steps_of rfl ?_
              intro L aq wq hL hd st wi
              obtain ⟨u9, e9, V9⟩ := st.val 9 _ _ rfl rfl (hd ⟨9, .data⟩ (by simp) rfl)
              obtain rfl : .pointer (some ⟨g, 0 + i * 2 + 1 * 1, none⟩) = u9 := V9.symm
              exact opTo_val (v := .int .i64 at') rfl (ex_load1 rfl oneInt (eval_tmp e9) ((wi.ag.cell (p := ⟨g, 0 + i * 2 + 1 * 1, none⟩) hgl hng).trans hc1)) ⟨(fun h => by cases h), rfl, wi.other (by decide) (by decide) (by decide) (by decide) _⟩
            | 11, _ =>
              refine steps_of rfl ?_
              intro L aq wq hL hd st wi
              have o8 := st.outside (t := 8) rfl (v := .pointer (some ⟨b8, 0, none⟩)) rfl
              exact opTo_val (v := .agg (pageCells other)) rfl (ex_load rfl isAgg_page b8 0 (eval_tmp o8) (pageCells other) (by rw [pageCells_size]; exact hp) (fun j _ => by rw [Nat.zero_add]; exact cell_of_row _ _ _ _ _ _ ((wi.ag.block _ (Array.getElem?_eq_some_iff.1 hgr).1 hn8).trans hgr))) ⟨(fun h => by cases h), rfl, wi.other (by decide) (by decide) (by decide) (by decide) _⟩
            | 12, _ =>
              refine steps_of rfl ?_
              intro L aq wq hL hd st wi
              obtain ⟨u0, e0, V0⟩ := st.val 0 _ _ rfl rfl (hd ⟨0, .data⟩ (by simp) rfl)
              obtain rfl : .agg vi.cells = u0 := V0.symm
              obtain ⟨u5, e5, V5⟩ := st.val 5 _ _ rfl rfl (hd ⟨5, .data⟩ (by simp) rfl)
              obtain rfl : .int .i64 (d : Int) = u5 := V5.symm
              obtain ⟨u10, e10, V10⟩ := st.val 10 _ _ rfl rfl (hd ⟨10, .data⟩ (by simp) rfl)
              obtain rfl : .int .i64 at' = u10 := V10.symm
              obtain ⟨u11, e11, V11⟩ := st.val 11 _ _ rfl rfl (hd ⟨11, .data⟩ (by simp) rfl)
              obtain rfl : .agg (pageCells other) = u11 := V11.symm
              refine opTo_call (w' := wq) (f := 21) (args := #[.agg vi.cells, .int .i64 d, .int .i64 at', .agg (pageCells other)]) rfl (by simp [go_sem, Act.eval, e0, e5, e10, e11]) ((HPT.out wq wi.ag).mono ?_)
              rintro e w' ⟨q, rfl, hh⟩
              exact ⟨_, rfl, (fun h => by cases h), ⟨q, rfl⟩, wi.call (by decide) (by decide) (by decide) hh.out.1 hh.out.2⟩
            | 13, _ =>
              refine steps_of rfl ?_
              intro L aq wq hL hd st wi
              obtain ⟨u12, e12, V12⟩ := st.val 12 _ _ rfl rfl (hd ⟨12, .data⟩ (by simp) rfl)
              have hk := wi.wr (hd ⟨12, .data⟩ (by simp) rfl)
              rw [show slotV _ aq 12 = u12 from slotV_val rfl rfl e12] at hk
              exact opTo_val (v := u12) rfl (ex_move (.inl rfl) (eval_tmp e12)) ⟨(fun h => by cases h), V12, wi.move (by decide) (by decide) (by decide) hk⟩
            | 14, _ =>
              refine steps_of rfl ?_
              intro L aq wq hL hd st wi
              obtain ⟨u13, e13, V13⟩ := st.val 13 _ _ rfl rfl (hd ⟨13, .data⟩ (by simp) rfl)
              have hn16 : L 16 = false := by
                cases h : L 16
                · rfl
                · have := st.closed 16 _ rfl h ⟨14, .data⟩ (by simp) rfl
                  rw [hL] at this; cases this
              have hk := wi.mv (hd ⟨13, .data⟩ (by simp) rfl)
              rw [show slotV _ aq 13 = u13 from slotV_val rfl rfl e13] at hk
              obtain ⟨q, rfl, hq⟩ := hk
              exact opTo_val (v := .agg q.cells) rfl (by simp [go_sem, Act.eval, e13]) ⟨(fun h => by cases h), ⟨q, rfl⟩, wi.take (by decide) (by decide) (by decide) hq hn16⟩
            | 15, _ =>
              refine steps_of rfl ?_
              intro L aq wq hL hd st wi
              obtain ⟨u13, e13, V13⟩ := st.val 13 _ _ rfl rfl (hd ⟨13, .data⟩ (by simp) rfl)
              obtain ⟨q, rfl⟩ := V13
              exact opTo_val (v := .int .i64 0) rfl (by simp [go_sem, Act.eval, e13]) ⟨(fun h => by cases h), rfl, wi.other (by decide) (by decide) (by decide) (by decide) _⟩
            | 16, _ =>
              refine steps_of rfl ?_
              intro L aq wq hL hd st wi
              have o15 := st.outside (t := 15) rfl (v := .pointer (some ⟨bp, 0, none⟩)) rfl
              obtain ⟨u14, e14, V14⟩ := st.val 14 _ _ rfl rfl (hd ⟨14, .data⟩ (by simp) rfl)
              have hrow := wi.bx
              rw [hL, if_neg Bool.false_ne_true] at hrow
              obtain ⟨q, hq1, hq2⟩ := wi.ex (hd ⟨14, .data⟩ (by simp) rfl)
              have hq1' := hq1
              rw [show slotV _ aq 14 = u14 from slotV_val rfl rfl e14] at hq1
              subst hq1
              exact opTo_skip rfl (ex_storeAll rfl isAgg_pair.2 bp (eval_tmp o15) q.cells vi.cells (eval_tmp e14) rfl hrow rfl (PV.one _)) ⟨fun _ => rfl, rfl, wi.fill (by decide) (by decide) (by decide) hq1'⟩
            | (m + 17), h => omega
          case hend =>
            intro vals W6 hV hW
            obtain ⟨q, hq1, hq2⟩ := hW.ex rfl
            have hrow := hW.bx
            rw [if_pos (by decide), hq1] at hrow
            have HS6 := Lib.hid (HB0.out.over hW.ag hrow hq2)
            have HA6 := Lib.hid (HAW0.out.trans hW.ag)
            simp only [putAll, Act.put, List.setIfInBounds_toArray, List.set_cons_succ, List.set_cons_zero]
            clear hW hV hrow hq1 hq2 hgr hgl hc0 hc1 hp HPT HC0 HC1 HB0 HAW0 hW0
            go_wp2_with fail
            exact ⟨⟨i + 1, by omega, by simp, Lib.hid ⟨q, HS6.out, HA6.out⟩⟩, by simp [intOf]; omega⟩
      · obtain rfl : i = nc := by omega
        have HS : RowKit.Hid (StW w b7 b8 bp page other vi (spoilt x page other kc) wr) := Lib.hid (by have := HBX.out; rw [HALL.out] at this; exact this)
        have HLO : RowKit.Hid (spoilt x page other kc).low := Lib.hid (by have := HLOW.out i; rw [HALL.out] at this; exact this)
        have HRW := Lib.hid ((HAW.out.block _ (Array.getElem?_eq_some_iff.1 HRX.out).1 hxb).trans HRX.out)
        have hgw : g < wr.heap.size := Nat.lt_of_lt_of_le HGL.out HAW.out.size
        have c0 : wr.cell? ⟨g, k * 2, none⟩ = some (.int .i64 kc.1) := by
          have e := HGC.out k hk 0 (by omega)
          rw [HK1.out] at e
          exact (HAW.out.cell (p := ⟨g, k * 2 + 0, none⟩) HGL.out hng).trans e
        have hkd : kc.1 = 0 ∨ kc.1 = 1 := HKC.out.2
        clear HPE HLOW HCP HOL H0 HBX HOT HALL HRX HK1 HGC HGL HAW
        cases off
        · clear c0 hkd
          go_wp2_with fail
          exact here_of () (by rfl) rfl ⟨_, _, HS.out, HRW.out, HLO.out, HSP.out.1⟩
        rcases hkd with hkd | hkd <;> rw [hkd] at c0
        · obtain ⟨W1, W2, hW1, hW2, ⟨u3, c3⟩, f3, ⟨sa, sn, sc, c1⟩, f1, hA1, hA2, hS2⟩ := HS.out.dropped (j := 1) (o1 := 5) (o3 := 7) (by omega) rfl rfl
          have c0' := (hA1.cell (p := ⟨g, k * 2, none⟩) hgw hng).trans c0
          have HS2 := Lib.hid hS2
          have HR2 := Lib.hid ((hA2.block _ (Array.getElem?_eq_some_iff.1 HRW.out).1 hxb).trans HRW.out)
          have HKP := Lib.hid (drop_kept (j := 1) HSP.out.1 HSP.out.2.1 HKC.out.1 HKC.out.2 HSP.out.2.2 (by omega) (by omega))
          have HLD := Lib.hid (HLO.out.dropped (j := 1) (by omega))
          clear hA1 hA2 hS2 hgw
          go_wp2_with fail
          exact here_of () (by rfl) rfl ⟨_, _, HS2.out, HR2.out, HLD.out, HKP.out⟩
        · obtain ⟨W1, W2, hW1, hW2, ⟨u3, c3⟩, f3, ⟨sa, sn, sc, c1⟩, f1, hA1, hA2, hS2⟩ := HS.out.dropped (j := 0) (o1 := 1) (o3 := 3) (by omega) rfl rfl
          have c0' := (hA1.cell (p := ⟨g, k * 2, none⟩) hgw hng).trans c0
          have HS2 := Lib.hid hS2
          have HR2 := Lib.hid ((hA2.block _ (Array.getElem?_eq_some_iff.1 HRW.out).1 hxb).trans HRW.out)
          have HKP := Lib.hid (drop_kept (j := 0) HSP.out.1 HSP.out.2.1 HKC.out.1 HKC.out.2 HSP.out.2.2 (by omega) (by omega))
          have HLD := Lib.hid (HLO.out.dropped (j := 0) (by omega))
          clear hA1 hA2 hS2 hgw
          go_wp2_with fail
          exact here_of () (by rfl) rfl ⟨_, _, HS2.out, HR2.out, HLD.out, HKP.out⟩
end Suture
/-
  FetchStays's WRITING: the page put on all copies, the list of the copies, which of them is kept.
  Conditions: pages of 256 bytes.
-/
namespace Suture
open Go Go.RowKit Go.Proofs
attribute [local go_sem] Oper.semAt_some

theorem turnS (n : Nat) (x : Int) (hn : n ≤ 3000) (h0 : 0 < n) : ∃ k : Nat, k < n ∧ (wrap64 (x.tmod n + n)).tmod n = k := by
  have h1 := Int.tmod_lt_of_pos x (show (0 : Int) < n by omega)
  have h2 := Int.lt_tmod_of_pos x (show (0 : Int) < n by omega)
  have e : wrap64 (x.tmod n + n) = x.tmod n + n := by unfold wrap64; omega
  rw [e]
  have h3 := Int.tmod_lt_of_pos (x.tmod n + n) (show (0 : Int) < n by omega)
  have h4 : 0 ≤ (x.tmod n + n).tmod n := Int.tmod_nonneg _ (by omega)
  exact ⟨((x.tmod n + n).tmod n).toNat, by omega, by omega⟩
theorem turn14 (x : Int) : ∃ k : Nat, k < 14 ∧ (wrap64 (x.tmod 14 + 14)).tmod 14 = (k : Int) := turnS 14 x (by omega) (by omega)

set_option maxHeartbeats 16000000 in
set_option maxRecDepth 100000 in
theorem stays_write : ∀ c, cR (cR (cR (cR (cR (cR (Try.f6.body)))))) = some c → ∀ (Q : Exit → Act → World → Prop) (w W : World) (b7 b8 bp bx : Nat) (x : Ptr) (k0 : Int) (page other : List (BitVec 8)) (off : Bool) (v : PV) (u : Nat → Value),
    x.ok → page.length = 256 → other.length = 256 → x.right 32 = true → x.fits page = true → (∀ c ∈ x.copies, onPair c ∧ 0 ≤ c.2 ∧ c.2 < 32) → x.copies.Nodup →
    StW w b7 b8 bp page other v freshP W → W.heap[bx]? = some (.cells x.cells 48 (0, 0)) → bx ≠ bp →
    (∀ a' W', a'.defers = [] → a'.tmps[14]? = some (.bool true) → Agrees All w W' → Q .ret a' W') →
    c.wp Try.prog Q { tmps := (u 0 :: u 1 :: u 2 :: u 3 :: u 4 :: (.int .i64 k0 : Value) :: (.bool off : Value) :: (.pointer (some ⟨b7, 0, none⟩) : Value) :: (.pointer (some ⟨b8, 0, none⟩) : Value) :: u 9 :: u 10 :: u 11 :: u 12 :: u 13 :: (.bool false : Value) :: (.pointer (some ⟨bp, 0, none⟩) : Value) :: (.int .i64 0 : Value) :: (.pointer (some ⟨bx, 0, none⟩) : Value) :: u 18 :: u 19 :: u 20 :: u 21 :: u 22 :: u 23 :: u 24 :: u 25 :: u 26 :: u 27 :: u 28 :: u 29 :: u 30 :: u 31 :: u 32 :: u 33 :: u 34 :: u 35 :: u 36 :: u 37 :: u 38 :: u 39 :: u 40 :: u 41 :: u 42 :: u 43 :: u 44 :: u 45 :: u 46 :: u 47 :: u 48 :: u 49 :: u 50 :: u 51 :: u 52 :: u 53 :: u 54 :: u 55 :: u 56 :: u 57 :: u 58 :: u 59 :: u 60 :: u 61 :: u 62 :: u 63 :: u 64 :: u 65 :: u 66 :: u 67 :: u 68 :: u 69 :: u 70 :: u 71 :: u 72 :: u 73 :: u 74 :: u 75 :: u 76 :: u 77 :: u 78 :: u 79 :: u 80 :: u 81 :: u 82 :: u 83 :: u 84 :: u 85 :: u 86 :: u 87 :: u 88 :: u 89 :: u 90 :: u 91 :: u 92 :: u 93 :: u 94 :: u 95 :: u 96 :: u 97 :: u 98 :: u 99 :: u 100 :: u 101 :: u 102 :: u 103 :: u 104 :: u 105 :: u 106 :: u 107 :: u 108 :: u 109 :: u 110 :: u 111 :: u 112 :: u 113 :: u 114 :: u 115 :: u 116 :: u 117 :: u 118 :: u 119 :: u 120 :: u 121 :: u 122 :: u 123 :: u 124 :: u 125 :: u 126 :: u 127 :: u 128 :: u 129 :: u 130 :: u 131 :: u 132 :: u 133 :: u 134 :: u 135 :: u 136 :: u 137 :: u 138 :: u 139 :: u 140 :: u 141 :: u 142 :: u 143 :: u 144 :: u 145 :: u 146 :: u 147 :: u 148 :: u 149 :: u 150 :: u 151 :: u 152 :: u 153 :: u 154 :: u 155 :: u 156 :: u 157 :: u 158 :: u 159 :: u 160 :: u 161 :: u 162 :: u 163 :: u 164 :: u 165 :: u 166 :: u 167 :: u 168 :: u 169 :: u 170 :: u 171 :: u 172 :: u 173 :: u 174 :: u 175 :: u 176 :: []).toArray, defers := [] } W := by
  intro c hc
  have hd := part_eq hc rfl
  subst hd
  clear hc
  intro Q w W b7 b8 bp bx x k0 page other off v u hx hpl hol hrt hf hcp hnd hS hrx hxb hQ
  refine wp_cut4 (Here (fun (p : Nat × Nat × Nat) u => (u 0 :: u 1 :: u 2 :: u 3 :: u 4 :: (.int .i64 (p.1 : Int) : Value) :: (.bool off : Value) :: (.pointer (some ⟨b7, 0, none⟩) : Value) :: (.pointer (some ⟨b8, 0, none⟩) : Value) :: u 9 :: u 10 :: u 11 :: u 12 :: u 13 :: (.bool false : Value) :: (.pointer (some ⟨bp, 0, none⟩) : Value) :: u 16 :: (.pointer (some ⟨bx, 0, none⟩) : Value) :: u 18 :: (.slice (some ⟨p.2.1, 0, none⟩) x.copies.length p.2.2 : Value) :: u 20 :: u 21 :: u 22 :: u 23 :: u 24 :: u 25 :: u 26 :: u 27 :: u 28 :: u 29 :: u 30 :: u 31 :: u 32 :: u 33 :: u 34 :: u 35 :: u 36 :: u 37 :: u 38 :: u 39 :: u 40 :: u 41 :: u 42 :: u 43 :: u 44 :: u 45 :: u 46 :: u 47 :: u 48 :: u 49 :: u 50 :: u 51 :: u 52 :: u 53 :: u 54 :: u 55 :: u 56 :: u 57 :: u 58 :: u 59 :: u 60 :: u 61 :: u 62 :: u 63 :: u 64 :: u 65 :: u 66 :: u 67 :: u 68 :: u 69 :: u 70 :: u 71 :: u 72 :: u 73 :: u 74 :: u 75 :: u 76 :: u 77 :: u 78 :: u 79 :: u 80 :: u 81 :: u 82 :: u 83 :: u 84 :: u 85 :: u 86 :: u 87 :: u 88 :: u 89 :: u 90 :: u 91 :: u 92 :: u 93 :: u 94 :: u 95 :: u 96 :: u 97 :: u 98 :: u 99 :: u 100 :: u 101 :: u 102 :: u 103 :: u 104 :: u 105 :: u 106 :: u 107 :: u 108 :: u 109 :: u 110 :: u 111 :: u 112 :: u 113 :: u 114 :: u 115 :: u 116 :: u 117 :: u 118 :: u 119 :: u 120 :: u 121 :: u 122 :: u 123 :: u 124 :: u 125 :: u 126 :: u 127 :: u 128 :: u 129 :: u 130 :: u 131 :: u 132 :: u 133 :: u 134 :: u 135 :: u 136 :: u 137 :: u 138 :: u 139 :: u 140 :: u 141 :: u 142 :: u 143 :: u 144 :: u 145 :: u 146 :: u 147 :: u 148 :: u 149 :: u 150 :: u 151 :: u 152 :: u 153 :: u 154 :: u 155 :: u 156 :: u 157 :: u 158 :: u 159 :: u 160 :: u 161 :: u 162 :: u 163 :: u 164 :: u 165 :: u 166 :: u 167 :: u 168 :: u 169 :: u 170 :: u 171 :: u 172 :: u 173 :: u 174 :: u 175 :: u 176 :: []).toArray) (fun p W' => p.1 < x.copies.length ∧ x.fits other = false ∧ (∃ v', StW w b7 b8 bp page other v' (freshP.puts page x.copies) W') ∧ W'.heap[bx]? = some (.cells x.cells 48 (0, 0)) ∧ p.2.1 < W'.heap.size ∧ p.2.1 ≠ bp ∧ (∀ i, i < x.copies.length → ∀ j, j < 2 → W'.cell? ⟨p.2.1, i * 2 + j, none⟩ = (copyL (x.copies.getD i (0, 0))).toArray[j]?))) ?part1 ?part2
  case part2 =>
    rintro a' W' ⟨⟨k, g, cap⟩, u2, rfl, hk, ho, ⟨v', h1⟩, h2, h3, h4, h5⟩
    exact stays_loop _ rfl Q w W' b7 b8 bp bx g cap _ k x page other off v' u2 hx hpl hol hrt hf ho hcp hnd rfl hk h1 h2 hxb h3 h4 h5 hQ
  case part1 =>
    intro K1 K2 K3 hK1 hK2 hK3
    have HPS := Lib.hid (show (pageCells page).size = 256 by rw [pageCells_size]; exact hpl)
    have HOS := Lib.hid (show (pageCells other).size = 256 by rw [pageCells_size]; exact hol)
    have HWR := Lib.hid (rpwrite_calls (fun b => b ≠ bp) v freshP x hx page hpl W hS.pair lowF rfl rfl (fun d _ => fresh_on d) (puts_fresh hcp page).1)
    have HFI := Lib.hid (rfits_calls x other hol)
    have HCO := Lib.hid (rcopies_calls x hx)
    have HCL : RowKit.Hid (x.copies.length ≤ 4 ∧ 0 < x.copies.length) := Lib.hid ⟨copies_le x, copies_pos x⟩
    have HS := Lib.hid hS
    have HRX := Lib.hid hrx
    have HQ := Lib.hid hQ
    clear hpl hol hrt hf hcp hnd hS hrx hQ hx
    go_wp2_with (first
    | (refine wpList_val rfl (ex_load (ty := 40) rfl isAgg_pair bp 0 rfl v.cells rfl (v.load HS.out.r15)) ?_)
    | (refine wpList_val rfl (ex_load (ty := 48) rfl isAgg_ptr bx 0 rfl x.cells rfl (x.load HRX.out)) ?_)
    | (refine wpList_val rfl (ex_load (ty := 32) rfl isAgg_page b7 0 rfl (pageCells page) HPS.out (fun j _ => by rw [Nat.zero_add]; exact cell_of_row _ _ _ _ _ _ HS.out.r7)) ?_))
    refine HWR.out.mono ?_
    rintro e W4 ⟨v', rfl, hh⟩
    obtain ⟨W5, hW5⟩ : ∃ W5, W4.setRow bp v'.cells = W5 := ⟨_, rfl⟩
    have HS4 := Lib.hid (HS.out.agrees hh.out.2)
    have g5 : Agrees (fun b => b ≠ bp) W4 W5 := by rw [← hW5]; exact (Agrees.refl _ _).setRow (.inl fun h => h rfl) _
    have HS5 := Lib.hid (HS4.out.over (v' := v') (P' := freshP.puts page x.copies) g5 (by rw [← hW5]; exact setRow_heap _ _ _ _ _ _ HS4.out.r15) ((hh.out.1.mono fun b hb => by
      have := (Array.getElem?_eq_some_iff.1 HS.out.r15).1
      rcases hb with hb | hb
      · exact hb
      · omega).agrees g5 fun _ h => h))
    have hx4 := (hh.out.2.block _ (Array.getElem?_eq_some_iff.1 HRX.out).1 trivial).trans HRX.out
    have HX5 := Lib.hid ((g5.block _ (Array.getElem?_eq_some_iff.1 hx4).1 hxb).trans hx4)
    clear HWR hh hx4 g5 HS HRX
    go_wp2_with (first
    | (refine wpList_unit rfl (ex_storeAll (ty := 40) rfl isAgg_pair.2 bp rfl v'.cells v.cells rfl rfl HS4.out.r15 rfl (PV.one _)) ?_; rw [hW5])
    | (refine wpList_val rfl (ex_load (ty := 48) rfl isAgg_ptr bx 0 rfl x.cells rfl (x.load HX5.out)) ?_)
    | (refine wpList_val rfl (ex_load (ty := 32) rfl isAgg_page b8 0 rfl (pageCells other) HOS.out (fun j _ => by rw [Nat.zero_add]; exact cell_of_row _ _ _ _ _ _ HS5.out.r8)) ?_))
    clear hW5 HS4
    refine (HFI.out W5).mono ?_
    rintro e W6 ⟨rfl, hag⟩
    have HS6 := Lib.hid (HS5.out.agrees hag)
    have HX6 := Lib.hid ((hag.block _ (Array.getElem?_eq_some_iff.1 HX5.out).1 trivial).trans HX5.out)
    clear hag HS5 HX5
    cases hfo : x.fits other
    · have HFO := Lib.hid hfo
      clear hfo HFI
      go_wp2_with (first
    | (refine wpList_val rfl (ex_load (ty := 48) rfl isAgg_ptr bx 0 rfl x.cells rfl (x.load HX6.out)) ?_))
      refine (HCO.out W6).mono ?_
      rintro e W7 ⟨cu, rfl, hcu, hag⟩
      obtain ⟨g, cur, cap, rfl, hgb, hgr, hcur⟩ := list_rows2 hcu HCL.out.2
      have HS7 := Lib.hid (HS6.out.agrees hag)
      have HX7 := Lib.hid ((hag.block _ (Array.getElem?_eq_some_iff.1 HX6.out).1 trivial).trans HX6.out)
      have hbl := (Array.getElem?_eq_some_iff.1 HS6.out.r15).1
      have HG : RowKit.Hid (g < W7.heap.size ∧ g ≠ bp ∧ (∀ i, i < x.copies.length → ∀ j, j < 2 → W7.cell? ⟨g, i * 2 + j, none⟩ = (copyL (x.copies.getD i (0, 0))).toArray[j]?)) := Lib.hid ⟨(Array.getElem?_eq_some_iff.1 hgr).1, by omega, fun i hi j hj => by rw [cell_of_row _ _ _ _ _ _ hgr]; exact hcur i hi j hj⟩
      obtain ⟨k, hk, hke⟩ := turnS x.copies.length k0 (by have := HCL.out; omega) HCL.out.2
      have HKL := Lib.hid hk
      clear hcu hgb hgr hcur hag HS6 HX6 hbl HCO
      have hnz : (x.copies.length : Int) ≠ 0 := by have := HCL.out.2; omega
      go_wp2_with fail
      exact here_of (k, g, cap) (by rfl) rfl ⟨HKL.out, HFO.out, ⟨v', HS7.out⟩, HX7.out, HG.out.1, HG.out.2.1, HG.out.2.2⟩
    · clear HFI HCO
      go_wp2_with fail
      refine (wakes_calls _).mono ?_
      rintro e W8 ⟨rfl, hag⟩
      have HF := Lib.hid (HS6.out.ag.trans hag)
      clear hag
      go_wp2_with fail
      exact HQ.out _ _ rfl rfl HF.out
end Suture
/-
  FetchStays's POINTER: of a leaf or of a chain.
  Conditions: pages of 256 bytes.
-/
namespace Suture
open Go Go.RowKit Go.Proofs
attribute [local go_sem] Oper.semAt_some

set_option maxHeartbeats 16000000 in
set_option maxRecDepth 100000 in
theorem stays_ptr : ∀ c, cR (cR (cR (cR (Try.f6.body)))) = some c → ∀ (Q : Exit → Act → World → Prop) (w W : World) (b7 b8 bp : Nat) (chain : Bool) (a b k0 : Int) (page other : List (BitVec 8)) (off : Bool) (v : PV) (u : Nat → Value),
    page.length = 256 → other.length = 256 → 4 ≤ a ∧ a < 18 → 18 ≤ b ∧ b < 32 → StW w b7 b8 bp page other v freshP W →
    (∀ a' W', a'.defers = [] → a'.tmps[14]? = some (.bool true) → Agrees All w W' → Q .ret a' W') →
    c.wp Try.prog Q { tmps := (u 0 :: u 1 :: (.bool chain : Value) :: (.int .i64 a : Value) :: (.int .i64 b : Value) :: (.int .i64 k0 : Value) :: (.bool off : Value) :: (.pointer (some ⟨b7, 0, none⟩) : Value) :: (.pointer (some ⟨b8, 0, none⟩) : Value) :: u 9 :: u 10 :: u 11 :: u 12 :: u 13 :: (.bool false : Value) :: (.pointer (some ⟨bp, 0, none⟩) : Value) :: (.int .i64 0 : Value) :: u 17 :: u 18 :: u 19 :: u 20 :: u 21 :: u 22 :: u 23 :: u 24 :: u 25 :: u 26 :: u 27 :: u 28 :: u 29 :: u 30 :: u 31 :: u 32 :: u 33 :: u 34 :: u 35 :: u 36 :: u 37 :: u 38 :: u 39 :: u 40 :: u 41 :: u 42 :: u 43 :: u 44 :: u 45 :: u 46 :: u 47 :: u 48 :: u 49 :: u 50 :: u 51 :: u 52 :: u 53 :: u 54 :: u 55 :: u 56 :: u 57 :: u 58 :: u 59 :: u 60 :: u 61 :: u 62 :: u 63 :: u 64 :: u 65 :: u 66 :: u 67 :: u 68 :: u 69 :: u 70 :: u 71 :: u 72 :: u 73 :: u 74 :: u 75 :: u 76 :: u 77 :: u 78 :: u 79 :: u 80 :: u 81 :: u 82 :: u 83 :: u 84 :: u 85 :: u 86 :: u 87 :: u 88 :: u 89 :: u 90 :: u 91 :: u 92 :: u 93 :: u 94 :: u 95 :: u 96 :: u 97 :: u 98 :: u 99 :: u 100 :: u 101 :: u 102 :: u 103 :: u 104 :: u 105 :: u 106 :: u 107 :: u 108 :: u 109 :: u 110 :: u 111 :: u 112 :: u 113 :: u 114 :: u 115 :: u 116 :: u 117 :: u 118 :: u 119 :: u 120 :: u 121 :: u 122 :: u 123 :: u 124 :: u 125 :: u 126 :: u 127 :: u 128 :: u 129 :: u 130 :: u 131 :: u 132 :: u 133 :: u 134 :: u 135 :: u 136 :: u 137 :: u 138 :: u 139 :: u 140 :: u 141 :: u 142 :: u 143 :: u 144 :: u 145 :: u 146 :: u 147 :: u 148 :: u 149 :: u 150 :: u 151 :: u 152 :: u 153 :: u 154 :: u 155 :: u 156 :: u 157 :: u 158 :: u 159 :: u 160 :: u 161 :: u 162 :: u 163 :: u 164 :: u 165 :: u 166 :: u 167 :: u 168 :: u 169 :: u 170 :: u 171 :: u 172 :: u 173 :: u 174 :: u 175 :: u 176 :: []).toArray, defers := [] } W := by
  intro c hc
  have hd := part_eq hc rfl
  subst hd
  clear hc
  intro Q w W b7 b8 bp chain a b k0 page other off v u hpl hol ha hb hS hQ
  refine wp_cut2 (Here (fun (bx : Nat) u => (u 0 :: u 1 :: u 2 :: u 3 :: u 4 :: (.int .i64 k0 : Value) :: (.bool off : Value) :: (.pointer (some ⟨b7, 0, none⟩) : Value) :: (.pointer (some ⟨b8, 0, none⟩) : Value) :: u 9 :: u 10 :: u 11 :: u 12 :: u 13 :: (.bool false : Value) :: (.pointer (some ⟨bp, 0, none⟩) : Value) :: (.int .i64 0 : Value) :: (.pointer (some ⟨bx, 0, none⟩) : Value) :: u 18 :: u 19 :: u 20 :: u 21 :: u 22 :: u 23 :: u 24 :: u 25 :: u 26 :: u 27 :: u 28 :: u 29 :: u 30 :: u 31 :: u 32 :: u 33 :: u 34 :: u 35 :: u 36 :: u 37 :: u 38 :: u 39 :: u 40 :: u 41 :: u 42 :: u 43 :: u 44 :: u 45 :: u 46 :: u 47 :: u 48 :: u 49 :: u 50 :: u 51 :: u 52 :: u 53 :: u 54 :: u 55 :: u 56 :: u 57 :: u 58 :: u 59 :: u 60 :: u 61 :: u 62 :: u 63 :: u 64 :: u 65 :: u 66 :: u 67 :: u 68 :: u 69 :: u 70 :: u 71 :: u 72 :: u 73 :: u 74 :: u 75 :: u 76 :: u 77 :: u 78 :: u 79 :: u 80 :: u 81 :: u 82 :: u 83 :: u 84 :: u 85 :: u 86 :: u 87 :: u 88 :: u 89 :: u 90 :: u 91 :: u 92 :: u 93 :: u 94 :: u 95 :: u 96 :: u 97 :: u 98 :: u 99 :: u 100 :: u 101 :: u 102 :: u 103 :: u 104 :: u 105 :: u 106 :: u 107 :: u 108 :: u 109 :: u 110 :: u 111 :: u 112 :: u 113 :: u 114 :: u 115 :: u 116 :: u 117 :: u 118 :: u 119 :: u 120 :: u 121 :: u 122 :: u 123 :: u 124 :: u 125 :: u 126 :: u 127 :: u 128 :: u 129 :: u 130 :: u 131 :: u 132 :: u 133 :: u 134 :: u 135 :: u 136 :: u 137 :: u 138 :: u 139 :: u 140 :: u 141 :: u 142 :: u 143 :: u 144 :: u 145 :: u 146 :: u 147 :: u 148 :: u 149 :: u 150 :: u 151 :: u 152 :: u 153 :: u 154 :: u 155 :: u 156 :: u 157 :: u 158 :: u 159 :: u 160 :: u 161 :: u 162 :: u 163 :: u 164 :: u 165 :: u 166 :: u 167 :: u 168 :: u 169 :: u 170 :: u 171 :: u 172 :: u 173 :: u 174 :: u 175 :: u 176 :: []).toArray) (fun bx W' => StW w b7 b8 bp page other v freshP W' ∧ W'.heap[bx]? = some (.cells (xS chain a b page).cells 48 (0, 0)) ∧ bx ≠ bp)) ?part1 ?part2
  case part2 =>
    rintro a' W' ⟨bx, u2, rfl, h1, h2, h3⟩
    obtain ⟨q1, q2, q3, q4, q5, _⟩ := xS_facts (chain := chain) (page := page) ha hb
    exact stays_write _ rfl Q w W' b7 b8 bp bx (xS chain a b page) k0 page other off v u2 q1 hpl hol q2 q3 q4 q5 h1 h2 h3 hQ
  case part1 =>
    intro K1 hK1
    have HPS := Lib.hid (show (pageCells page).size = 256 by rw [pageCells_size]; exact hpl)
    have HO1 := Lib.hid (rof_calls 1 a b 1 page hpl)
    have HO3 := Lib.hid (rof_calls 3 a b 1 page hpl)
    have HS := Lib.hid hS
    clear hpl hol hS hQ ha hb
    go_wp2_with (first
    | (refine wpList_val rfl (ex_load (ty := 32) rfl isAgg_page b7 0 rfl (pageCells page) HPS.out (fun j _ => by rw [Nat.zero_add]; exact cell_of_row _ _ _ _ _ _ HS.out.r7)) ?_))
    refine (HO1.out W).mono ?_
    rintro e W4 ⟨rfl, hag⟩
    obtain ⟨W5, W6, hW5, hW6, hz, hr, hg6⟩ := box_new W4 Ptr.zero.cells (ptrOf 1 a b 1 page).cells 48
    have HS4 := Lib.hid (HS.out.agrees hag)
    have HZ := Lib.hid hz
    have HR := Lib.hid hr
    have HS6 := Lib.hid (HS4.out.agrees hg6)
    have hbx : W4.heap.size ≠ bp := by have := (Array.getElem?_eq_some_iff.1 HS4.out.r15).1; omega
    clear hag hz hr HS
    generalize hx1 : ptrOf 1 a b 1 page = x1 at *
    generalize hx3 : ptrOf 3 a b 1 page = x3 at *
    have HX1 := Lib.hid hx1
    have HX3 := Lib.hid hx3
    clear hx1 hx3
    cases chain
    · go_wp2_with (first
    | (refine wpList_val rfl (ex_alloc rfl (.agg Ptr.zero.cells) zero_ptr) ?_; rw [show (Value.agg Ptr.zero.cells).cells = Ptr.zero.cells from rfl, hW5])
    | (refine wpList_unit rfl (ex_storeAll (ty := 48) rfl isAgg_ptr.2 W4.heap.size rfl x1.cells Ptr.zero.cells rfl rfl HZ.out rfl (Ptr.one _)) ?_; rw [hW6]))
      refine here_of W4.heap.size (by rfl) rfl ⟨HS6.out, ?_, hbx⟩
      rw [show xS false a b page = ptrOf 1 a b 1 page from rfl, HX1.out]; exact HR.out
    · go_wp2_with (first
    | (refine wpList_val rfl (ex_alloc rfl (.agg Ptr.zero.cells) zero_ptr) ?_; rw [show (Value.agg Ptr.zero.cells).cells = Ptr.zero.cells from rfl, hW5])
    | (refine wpList_unit rfl (ex_storeAll (ty := 48) rfl isAgg_ptr.2 W4.heap.size rfl x1.cells Ptr.zero.cells rfl rfl HZ.out rfl (Ptr.one _)) ?_; rw [hW6])
    | (refine wpList_val rfl (ex_load (ty := 32) rfl isAgg_page b7 0 rfl (pageCells page) HPS.out (fun j _ => by rw [Nat.zero_add]; exact cell_of_row _ _ _ _ _ _ HS6.out.r7)) ?_))
      clear hW5 hW6 HZ
      refine (HO3.out W6).mono ?_
      rintro e W7 ⟨rfl, hag⟩
      obtain ⟨W8, hW8⟩ : ∃ W8, W7.setRow W4.heap.size x3.cells = W8 := ⟨_, rfl⟩
      have HR7 := Lib.hid ((hag.block _ (Array.getElem?_eq_some_iff.1 HR.out).1 trivial).trans HR.out)
      have HS7 := Lib.hid (HS6.out.agrees hag)
      have h8 : W8.heap[W4.heap.size]? = some (.cells x3.cells 48 (0, 0)) := by rw [← hW8]; exact setRow_heap _ _ _ _ _ _ HR7.out
      have HS8 := Lib.hid (HS4.out.young (((hg6.weak (R := fun b => b < W4.heap.size)).trans' hag fun _ _ _ => trivial).trans' (show Agrees (fun b => b ≠ W4.heap.size) W7 W8 by rw [← hW8]; exact (Agrees.refl _ _).setRow (.inl fun h => h rfl) _) fun b hb _ => by omega))
      clear hag HS6 HR hg6
      go_wp2_with (first
    | (refine wpList_unit rfl (ex_storeAll (ty := 48) rfl isAgg_ptr.2 W4.heap.size rfl x3.cells x1.cells rfl rfl HR7.out rfl (Ptr.one _)) ?_; rw [hW8]))
      refine here_of W4.heap.size (by rfl) rfl ⟨HS8.out, ?_, hbx⟩
      rw [show xS true a b page = ptrOf 3 a b 1 page from rfl, HX3.out]; exact h8
end Suture
/-
  suturelaw11.FetchStays answers true: a page that is right on some attached disk is read, whatever befell its other copies.
  Conditions: pages of 256 bytes.
-/
namespace Suture
open Go Go.RowKit Go.Proofs
attribute [local go_sem] Oper.semAt_some

set_option maxHeartbeats 16000000 in
set_option maxRecDepth 100000 in
theorem fetchStays_calls (page other : List (BitVec 8)) (hp : page.length = 256) (ho : other.length = 256) (chain : Bool) (a0 b0 k0 : Int) (off : Bool) (w : World) :
    Calls Try.prog 6 #[.agg (pageCells page), .agg (pageCells other), .bool chain, .int .i64 a0, .int .i64 b0, .int .i64 k0, .bool off] w fun e w' => e = .returned (.bool true) ∧ Agrees All w w' := by
  obtain ⟨W1, hW1⟩ : ∃ W1, w.alloc (.cells (pageCells page) 32) = W1 := ⟨_, rfl⟩
  obtain ⟨W2, hW2⟩ : ∃ W2, W1.alloc (.cells (pageCells other) 32) = W2 := ⟨_, rfl⟩
  have hs1 : W1.heap.size = w.heap.size + 1 := by rw [← hW1]; simp
  have HA2 := Lib.hid (show Agrees All w W2 by rw [← hW2, ← hW1]; exact ((Agrees.refl _ w).alloc _).alloc _)
  have HR0 := Lib.hid (show W2.heap[w.heap.size]? = some (.cells (pageCells page) 32 (0, 0)) by rw [← hW2, ← hW1]; exact row_old (row_new _ rfl))
  have HR1 := Lib.hid (show W2.heap[w.heap.size + 1]? = some (.cells (pageCells other) 32 (0, 0)) by rw [← hW2]; exact row_new _ hs1)
  have HP := Lib.hid hp
  have HO := Lib.hid ho
  clear hp ho
  go_enter Try.func6, Try.ntmps6
  refine wp_cut4 (Here (fun (p : Nat × Int × Int) u => (u 0 :: u 1 :: (.bool chain : Value) :: (.int .i64 p.2.1 : Value) :: (.int .i64 p.2.2 : Value) :: (.int .i64 k0 : Value) :: (.bool off : Value) :: (.pointer (some ⟨w.heap.size, 0, none⟩) : Value) :: (.pointer (some ⟨w.heap.size + 1, 0, none⟩) : Value) :: u 9 :: u 10 :: u 11 :: u 12 :: u 13 :: (.bool false : Value) :: (.pointer (some ⟨p.1, 0, none⟩) : Value) :: (.int .i64 0 : Value) :: u 17 :: u 18 :: u 19 :: u 20 :: u 21 :: u 22 :: u 23 :: u 24 :: u 25 :: u 26 :: u 27 :: u 28 :: u 29 :: u 30 :: u 31 :: u 32 :: u 33 :: u 34 :: u 35 :: u 36 :: u 37 :: u 38 :: u 39 :: u 40 :: u 41 :: u 42 :: u 43 :: u 44 :: u 45 :: u 46 :: u 47 :: u 48 :: u 49 :: u 50 :: u 51 :: u 52 :: u 53 :: u 54 :: u 55 :: u 56 :: u 57 :: u 58 :: u 59 :: u 60 :: u 61 :: u 62 :: u 63 :: u 64 :: u 65 :: u 66 :: u 67 :: u 68 :: u 69 :: u 70 :: u 71 :: u 72 :: u 73 :: u 74 :: u 75 :: u 76 :: u 77 :: u 78 :: u 79 :: u 80 :: u 81 :: u 82 :: u 83 :: u 84 :: u 85 :: u 86 :: u 87 :: u 88 :: u 89 :: u 90 :: u 91 :: u 92 :: u 93 :: u 94 :: u 95 :: u 96 :: u 97 :: u 98 :: u 99 :: u 100 :: u 101 :: u 102 :: u 103 :: u 104 :: u 105 :: u 106 :: u 107 :: u 108 :: u 109 :: u 110 :: u 111 :: u 112 :: u 113 :: u 114 :: u 115 :: u 116 :: u 117 :: u 118 :: u 119 :: u 120 :: u 121 :: u 122 :: u 123 :: u 124 :: u 125 :: u 126 :: u 127 :: u 128 :: u 129 :: u 130 :: u 131 :: u 132 :: u 133 :: u 134 :: u 135 :: u 136 :: u 137 :: u 138 :: u 139 :: u 140 :: u 141 :: u 142 :: u 143 :: u 144 :: u 145 :: u 146 :: u 147 :: u 148 :: u 149 :: u 150 :: u 151 :: u 152 :: u 153 :: u 154 :: u 155 :: u 156 :: u 157 :: u 158 :: u 159 :: u 160 :: u 161 :: u 162 :: u 163 :: u 164 :: u 165 :: u 166 :: u 167 :: u 168 :: u 169 :: u 170 :: u 171 :: u 172 :: u 173 :: u 174 :: u 175 :: u 176 :: []).toArray) (fun p W' => (4 ≤ p.2.1 ∧ p.2.1 < 18) ∧ (18 ≤ p.2.2 ∧ p.2.2 < 32) ∧ ∃ v, StW w w.heap.size (w.heap.size + 1) p.1 page other v freshP W')) ?part1 ?part2
  case part2 =>
    rintro a' W' ⟨⟨bp, a, b⟩, u2, rfl, h1, h2, v, h3⟩
    refine stays_ptr _ rfl _ w W' w.heap.size (w.heap.size + 1) bp chain a b k0 page other off v u2 HP.out HO.out h1 h2 h3 ?_
    intro a' W'' hdf h14 hag
    refine bodyPost_ret (v := .bool true) ?_ hdf ⟨rfl, hag⟩
    exact (results_tmp rfl _ _ _).trans (by rw [getD_of h14])
  case part1 =>
    intro K1 K2 K3 hK1 hK2 hK3
    go_wp2_with fail
    refine (rmake_calls W2).mono ?_
    rintro e W3 ⟨v, rfl, hh⟩
    obtain ⟨Y1, Y2, hY1, hY2, hz, hr, hgY⟩ := box_new W3 PV.zero.cells v.cells 40
    have HZ := Lib.hid hz
    have hg := hh.out.2.trans hgY
    have h2 := (Array.getElem?_eq_some_iff.1 HR1.out).1
    have HST : RowKit.Hid (StW w w.heap.size (w.heap.size + 1) W3.heap.size page other v freshP Y2) := Lib.hid ⟨HA2.out.trans hg, (hg.block _ (Array.getElem?_eq_some_iff.1 HR0.out).1 trivial).trans HR0.out, (hg.block _ h2 trivial).trans HR1.out, hr,
      ⟨by have := hh.out.2.size; omega, by have := hh.out.2.size; omega, by have := hh.out.2.size; omega⟩, (hh.out.1.both.agrees hgY fun _ _ => trivial).mono fun b hb e => by have := hb.2; omega⟩
    clear hz hr hgY hh hg h2 hW1 hW2 hs1
    obtain ⟨a, ha, hae⟩ := turn14 a0
    obtain ⟨b, hb, hbe⟩ := turn14 b0
    go_wp2_with (first
      | (refine wpList_val rfl (ex_alloc rfl (.agg PV.zero.cells) zero_pair) ?_; rw [show (Value.agg PV.zero.cells).cells = PV.zero.cells from rfl, hY1])
      | (refine wpList_unit rfl (ex_storeAll (ty := 40) rfl isAgg_pair.2 W3.heap.size rfl v.cells PV.zero.cells rfl rfl HZ.out rfl (PV.one _)) ?_; rw [hY2]))
    exact here_of (W3.heap.size, 4 + (a : Int), 18 + (b : Int)) (by rfl) rfl ⟨⟨by simp only; omega, by simp only; omega⟩, ⟨by simp only; omega, by simp only; omega⟩, v, HST.out⟩
end Suture
