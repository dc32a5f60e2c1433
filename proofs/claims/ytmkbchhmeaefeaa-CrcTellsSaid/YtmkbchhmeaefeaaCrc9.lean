/-
  suturelaw01.CrcThree: of three rows of one length, combined byte by byte, the sum is the three sums combined.
  Conditions: none.
-/
import Derived.Test.YtmkbchhmeaefeaaCrc8
namespace Suture
open Go Go.RowKit Go.Proofs

theorem Agrees.grown {A W W' : World} {row : Option Nat} (h : Agrees All A W) (g : W.grownBy W' row) (hr : ∀ b, row = some b → A.heap.size ≤ b) : Agrees All A W' :=
  ⟨g.os.trans h.os, g.tape.trans h.tape, g.output.trans h.output, Nat.le_trans h.size g.size, fun b hb _ =>
    (g.block b (Nat.lt_of_lt_of_le hb h.size) (fun e => by have := hr b e.symm; omega)).trans (h.block b hb trivial)⟩
theorem slotV_val {ops : Array Oper} {a : Act} {j : Nat} {o : Oper} {t : Tmp} {v : Value} (h : ops[j]? = some o) (hd : o.dst = some t) (e : a.tmps[t]? = some v) : slotV ops a j = v := by
  rw [slotV_some h hd]; simp [e]
theorem own_bytes {W : World} {base : Nat} {e : TypeId} {v : Value} {n : Nat} {xs : List (BitVec 8)} (h : W.ownsRow base e 1 v n (xs.map B)) : BytesAt All W v xs := by
  obtain ⟨h1, h2⟩ := h
  rcases h2 with ⟨rfl, rfl⟩ | ⟨g, cap, cur, rfl, _, hg, hc, hm, hs, ht⟩
  · have : xs = [] := by simpa using h1
    subst this
    exact bytesAt_nil _ _
  · refine ⟨_, n, cap, rfl, by simpa using h1, by simp only [maxLen] at hm; omega, fun j x hx => ⟨g, 0, rfl, trivial, (Array.getElem?_eq_some_iff.1 hg).1, ?_⟩⟩
    rw [Nat.zero_add, cell_of_row W g _ cur _ _ hg, ← Array.getElem?_toList]
    rw [← ht, List.getElem?_take] at hx
    split at hx
    · exact hx
    · cases hx
theorem sum_row (W : World) (b : Nat) (a : Option Addr) (n cap : Nat) (bs : List (BitVec 8)) (t : TypeId) (hb : W.heap[b]? = some (.cells #[.slice a n cap] t (0, 0))) (hv : BytesAt All W (.slice a n cap) bs) :
    Calls Try.prog 13 #[.slice (some ⟨b, 0, none⟩) 1 1] W fun e w' => e = .returned (U (sum bs)) ∧ Agrees All W w' := by
  have hlt := (Array.getElem?_eq_some_iff.1 hb).1
  refine (sum_calls _ _ _ [bs] _ (parts_one _ _ b n cap a bs hlt hlt (by rw [cell_of_row _ _ _ _ _ _ hb]; rfl) (SliceAt.bound hv))).mono ?_
  rintro e w' ⟨rfl, h⟩
  exact ⟨by simp, h⟩

/-- a row of one slice -/
def RowOne (W : World) (u x : Value) : Prop := ∃ b, u = .slice (some ⟨b, 0, none⟩) 1 1 ∧ W.heap[b]? = some (.cells #[x] 22 (0, 0))
theorem RowOne.agrees {W W' : World} {u x : Value} (h : RowOne W u x) (g : Agrees All W W') : RowOne W' u x := by
  obtain ⟨b, rfl, hb⟩ := h
  exact ⟨b, rfl, (g.block b (Array.getElem?_eq_some_iff.1 hb).1 trivial).trans hb⟩

def vThree (W0 : World) (v : Value) (b1 o1 n1 cap1 b2 o2 n2 cap2 b3 o3 n3 cap3 j : Nat) (p q r : BitVec 8) : Nat → Value → Prop
  | 0, val => val = v
  | 1, val => val = .slice (some ⟨b1, o1, none⟩) n1 cap1
  | 2, val => val = .int .i64 (j : Int)
  | 3, val => val = .pointer (some ⟨b1, o1 + j * 1, none⟩)
  | 4, val => val = B p
  | 5, val => val = .slice (some ⟨b2, o2, none⟩) n2 cap2
  | 6, val => val = .int .i64 (j : Int)
  | 7, val => val = .pointer (some ⟨b2, o2 + j * 1, none⟩)
  | 8, val => val = B q
  | 9, val => val = B (p ^^^ q)
  | 10, val => val = .slice (some ⟨b3, o3, none⟩) n3 cap3
  | 11, val => val = .int .i64 (j : Int)
  | 12, val => val = .pointer (some ⟨b3, o3 + j * 1, none⟩)
  | 13, val => val = B r
  | 14, val => val = B (p ^^^ q ^^^ r)
  | 15, val => val = .slice (some ⟨W0.heap.size, 0, none⟩) 1 1
  | 16, _ => True
  | 17, _ => True
  | _, _ => True

def wiThree (w W0 : World) (base j : Nat) (xs : List Value) (c : BitVec 8) (L : Nat → Bool) (vals : Nat → Value) (W : World) : Prop :=
  (L 15 = false → L 16 = false ∧ W0 = W) ∧ (L 15 = true → L 16 = false → W0.alloc (.cells #[B c] 5) = W) ∧
  (L 16 = true → W.ownsRow base 5 1 (vals 16) (j + 1) (xs ++ [B c]) ∧ Agrees All w W) ∧ (L 17 = true → vals 17 = vals 16)

def vSums (a1 a2 a3 av : Option Addr) (n1 cap1 n2 cap2 n3 cap3 nv cv n : Nat) (s s1 s2 s3 : BitVec 64) : Nat → Value → Prop
  | 0, val => val = .slice av nv cv
  | 1, _ => True
  | 2, val => val = U (s)
  | 3, val => val = .slice a1 n1 cap1
  | 4, val => val = .int .i64 (n : Int)
  | 5, val => val = .slice (slA a1 0 cap1) (n - 0) (cap1 - 0)
  | 6, _ => True
  | 7, val => val = U (s1)
  | 8, val => val = .slice a2 n2 cap2
  | 9, val => val = .int .i64 (n : Int)
  | 10, val => val = .slice (slA a2 0 cap2) (n - 0) (cap2 - 0)
  | 11, _ => True
  | 12, val => val = U (s2)
  | 13, val => val = U (s1 ^^^ s2)
  | 14, val => val = .slice a3 n3 cap3
  | 15, val => val = .int .i64 (n : Int)
  | 16, val => val = .slice (slA a3 0 cap3) (n - 0) (cap3 - 0)
  | 17, _ => True
  | 18, val => val = U (s3)
  | 19, val => val = U (s1 ^^^ s2 ^^^ s3)
  | 20, val => val = .bool true
  | 21, val => val = .bool true
  | 22, val => val = .bool true
  | 23, val => val = .bool true
  | 24, val => val = .bool true
  | _, _ => True

def wiSums (W0 : World) (v x1 x2 x3 : Value) (L : Nat → Bool) (vals : Nat → Value) (W : World) : Prop :=
  Agrees All W0 W ∧ (L 1 = true → RowOne W (vals 1) v) ∧ (L 6 = true → RowOne W (vals 6) x1) ∧ (L 11 = true → RowOne W (vals 11) x2) ∧ (L 17 = true → RowOne W (vals 17) x3)
theorem wiSums_mono {W0 : World} {v x1 x2 x3 : Value} {L : Nat → Bool} {vals : Nat → Value} {W W' : World} (h : wiSums W0 v x1 x2 x3 L vals W) (g : Agrees All W W') : wiSums W0 v x1 x2 x3 L vals W' :=
  ⟨h.1.trans g, fun k => (h.2.1 k).agrees g, fun k => (h.2.2.1 k).agrees g, fun k => (h.2.2.2.1 k).agrees g, fun k => (h.2.2.2.2 k).agrees g⟩

set_option maxHeartbeats 16000000 in
set_option maxRecDepth 100000 in
theorem crcThree_calls (a1 a2 a3 : Option Addr) (n1 n2 n3 cap1 cap2 cap3 : Nat) (x y z : List (BitVec 8)) (w : World) (hx : BytesAt All w (.slice a1 n1 cap1) x) (hy : BytesAt All w (.slice a2 n2 cap2) y) (hz : BytesAt All w (.slice a3 n3 cap3) z) :
    Calls Try.prog 5 #[.slice a1 n1 cap1, .slice a2 n2 cap2, .slice a3 n3 cap3] w fun e w' => e = .returned (.bool true) ∧ Agrees All w w' := by
  go_enter Try.func5, Try.ntmps5
  go_wp2_with (go_at_call 12; refine (wakes01_calls _).mono ?_; rintro e w2 ⟨rfl, hag2⟩)
  · go_ret
    exact ⟨rfl, hag2⟩
  · go_ret
    exact ⟨rfl, hag2⟩
  · go_ret
    exact ⟨rfl, hag2⟩
  · have hle : (n3 ≤ n1 ∧ n3 ≤ n2 ∧ n3 ≤ n3) ∧ n3 ≤ 1000 := by omega
    have HX := Lib.hid hx
    have HY := Lib.hid hy
    have HZ := Lib.hid hz
    clear hx hy hz
    go_loopw [8, 9] (fun c ii wr => ∃ (j : Nat) (v : Value), j ≤ n3 ∧ ii = .int .i64 j ∧ v = c ∧ RowKit.Hid (wr.ownsRow w.heap.size 5 1 v j ((xorTo x y z j).map B) ∧ Agrees All w wr)) (fun _ ii _ => n3 - (intOf ii).toNat)
    case atStart => exact ⟨0, _, by omega, rfl, rfl, World.ownsRow_nil _ _ _ _, Agrees.refl _ _⟩
    case round =>
      obtain ⟨j, v, hj, rfl, rfl, HJ⟩ := hrel
      by_cases hlt : j < n3
      · obtain ⟨b1, o1, rfl, _, hs1, hc1⟩ := HX.out.at.2.2 j (by omega)
        obtain ⟨b2, o2, rfl, _, hs2, hc2⟩ := HY.out.at.2.2 j (by omega)
        obtain ⟨b3, o3, rfl, _, hs3, hc3⟩ := HZ.out.at.2.2 j (by omega)
        have HS := Lib.hid (xorTo_succ x y z j (by rw [HX.out.len]; omega) (by rw [HY.out.len]; omega) (by rw [HZ.out.len]; omega))
        have HC1 := Lib.hid ((HJ.out.2.cell (p := ⟨b1, o1 + j, none⟩) hs1 trivial).trans hc1)
        have HC2 := Lib.hid ((HJ.out.2.cell (p := ⟨b2, o2 + j, none⟩) hs2 trivial).trans hc2)
        have HC3 := Lib.hid ((HJ.out.2.cell (p := ⟨b3, o3 + j, none⟩) hs3 trivial).trans hc3)
        clear hc1 hc2 hc3
        generalize x.getD j 0 = p at *
        generalize y.getD j 0 = q at *
        generalize z.getD j 0 = r at *
        go_wp2_with fail
        have hc1 := HC1.out
        have hc2 := HC2.out
        have hc3 := HC3.out
        have hown : wr.drew.ownsRow w.heap.size 5 1 v j ((xorTo x y z j).map B) := HJ.out.1
        have hag0 := HJ.out.2.drew
        have hsz0 := HJ.out.2.size
        obtain ⟨i0, hi0, hz0, hz1, hz2⟩ := info_parts infoU8
        obtain ⟨W0, hW0⟩ : ∃ W0, wr.drew = W0 := ⟨_, rfl⟩
        have hc1' : W0.cell? ⟨b1, o1 + j * 1, none⟩ = some (B p) := by rw [← hW0, Nat.mul_one]; exact hc1
        have hc2' : W0.cell? ⟨b2, o2 + j * 1, none⟩ = some (B q) := by rw [← hW0, Nat.mul_one]; exact hc2
        have hc3' : W0.cell? ⟨b3, o3 + j * 1, none⟩ = some (B r) := by rw [← hW0, Nat.mul_one]; exact hc3
        have hszW : w.heap.size ≤ W0.heap.size := by rw [← hW0]; exact hsz0
        rw [hW0] at hown hag0
        refine wp_region_plan (by kernel_rfl) ?hok (by kernel_rfl) (vThree W0 v b1 o1 n1 cap1 b2 o2 n2 cap2 b3 o3 n3 cap3 j p q r) (wiThree w W0 w.heap.size j ((xorTo x y z j).map B) (p ^^^ q ^^^ r)) ?h0 (fun i hi => ?steps) ?hend
        case hok => kernel_rfl
        case h0 => exact fun vals => ⟨fun _ => ⟨rfl, hW0.symm⟩, fun h => (by cases h), fun h => (by cases h), fun h => (by cases h)⟩
        case steps =>
          generalize hxs : (xorTo x y z j).map B = xs at *
          generalize hba : w.heap.size = base at *
          have hc1 := hc1'
          have hc2 := hc2'
          have hc3 := hc3'
          have hi' : i < 18 := hi
          match i, hi' with
          | 0, _ =>
            refine steps_of rfl ?_
            intro L aq wq hL hd st wi
            have o8 := st.before (by kernel_rfl) hL (k := 17) rfl rfl (e := ⟨0, .phase⟩) (by simp) rfl rfl (v := v) rfl
            exact opTo_val (v := v) rfl (ex_move (.inl rfl) (eval_tmp o8)) ⟨(fun h => by cases h), rfl, wi⟩
          | 1, _ =>
            refine steps_of rfl ?_
            intro L aq wq hL hd st wi
            have o0 := st.outside (t := 0) rfl (v := .slice (some ⟨b1, o1, none⟩) n1 cap1) rfl
            exact opTo_val (v := .slice (some ⟨b1, o1, none⟩) n1 cap1) rfl (ex_move (.inl rfl) (eval_tmp o0)) ⟨(fun h => by cases h), rfl, wi⟩
          | 2, _ =>
            refine steps_of rfl ?_
            intro L aq wq hL hd st wi
            have o9 := st.outside (t := 9) rfl (v := .int .i64 (j : Int)) rfl
            exact opTo_val (v := .int .i64 (j : Int)) rfl (ex_move (.inl rfl) (eval_tmp o9)) ⟨(fun h => by cases h), rfl, wi⟩
          | 3, _ =>
            refine steps_of rfl ?_
            intro L aq wq hL hd st wi
            obtain ⟨u1, e1, V1⟩ := st.val 1 _ _ rfl rfl (hd ⟨1, .data⟩ (by simp) rfl)
            obtain rfl : .slice (some ⟨b1, o1, none⟩) n1 cap1 = u1 := V1.symm
            obtain ⟨u2, e2, V2⟩ := st.val 2 _ _ rfl rfl (hd ⟨2, .data⟩ (by simp) rfl)
            obtain rfl : .int .i64 (j : Int) = u2 := V2.symm
            exact opTo_val (v := .pointer (some ⟨b1, o1 + j * 1, none⟩)) rfl (ex_idx rfl Try.underlying22 (by kernel_rfl) b1 o1 n1 cap1 j (eval_tmp e1) (eval_tmp e2) (by omega)) ⟨(fun h => by cases h), rfl, wi⟩
          | 4, _ =>
            refine steps_of rfl ?_
            intro L aq wq hL hd st wi
            obtain ⟨u3, e3, V3⟩ := st.val 3 _ _ rfl rfl (hd ⟨3, .data⟩ (by simp) rfl)
            obtain rfl : .pointer (some ⟨b1, o1 + j * 1, none⟩) = u3 := V3.symm
            have h15 : L 15 = false := by
              cases h : L 15
              · rfl
              · have h14 := st.closed 15 _ rfl h ⟨14, .data⟩ (by simp) rfl
                have h9 := st.closed 14 _ rfl h14 ⟨9, .data⟩ (by simp) rfl
                have h4 := st.closed 9 _ rfl h9 ⟨4, .data⟩ (by simp) rfl
                rw [hL] at h4; cases h4
            refine opTo_val (v := B p) rfl (ex_load1 rfl oneU8 (eval_tmp e3) ?_) ⟨(fun h => by cases h), rfl, wi⟩
            rw [← (wi.1 h15).2]; exact hc1
          | 5, _ =>
            refine steps_of rfl ?_
            intro L aq wq hL hd st wi
            have o1 := st.outside (t := 1) rfl (v := .slice (some ⟨b2, o2, none⟩) n2 cap2) rfl
            exact opTo_val (v := .slice (some ⟨b2, o2, none⟩) n2 cap2) rfl (ex_move (.inl rfl) (eval_tmp o1)) ⟨(fun h => by cases h), rfl, wi⟩
          | 6, _ =>
            refine steps_of rfl ?_
            intro L aq wq hL hd st wi
            have o9 := st.outside (t := 9) rfl (v := .int .i64 (j : Int)) rfl
            exact opTo_val (v := .int .i64 (j : Int)) rfl (ex_move (.inl rfl) (eval_tmp o9)) ⟨(fun h => by cases h), rfl, wi⟩
          | 7, _ =>
            refine steps_of rfl ?_
            intro L aq wq hL hd st wi
            obtain ⟨u5, e5, V5⟩ := st.val 5 _ _ rfl rfl (hd ⟨5, .data⟩ (by simp) rfl)
            obtain rfl : .slice (some ⟨b2, o2, none⟩) n2 cap2 = u5 := V5.symm
            obtain ⟨u6, e6, V6⟩ := st.val 6 _ _ rfl rfl (hd ⟨6, .data⟩ (by simp) rfl)
            obtain rfl : .int .i64 (j : Int) = u6 := V6.symm
            exact opTo_val (v := .pointer (some ⟨b2, o2 + j * 1, none⟩)) rfl (ex_idx rfl Try.underlying22 (by kernel_rfl) b2 o2 n2 cap2 j (eval_tmp e5) (eval_tmp e6) (by omega)) ⟨(fun h => by cases h), rfl, wi⟩
          | 8, _ =>
            refine steps_of rfl ?_
            intro L aq wq hL hd st wi
            obtain ⟨u7, e7, V7⟩ := st.val 7 _ _ rfl rfl (hd ⟨7, .data⟩ (by simp) rfl)
            obtain rfl : .pointer (some ⟨b2, o2 + j * 1, none⟩) = u7 := V7.symm
            have h15 : L 15 = false := by
              cases h : L 15
              · rfl
              · have h14 := st.closed 15 _ rfl h ⟨14, .data⟩ (by simp) rfl
                have h9 := st.closed 14 _ rfl h14 ⟨9, .data⟩ (by simp) rfl
                have h8 := st.closed 9 _ rfl h9 ⟨8, .data⟩ (by simp) rfl
                rw [hL] at h8; cases h8
            refine opTo_val (v := B q) rfl (ex_load1 rfl oneU8 (eval_tmp e7) ?_) ⟨(fun h => by cases h), rfl, wi⟩
            rw [← (wi.1 h15).2]; exact hc2
          | 9, _ =>
            refine steps_of rfl ?_
            intro L aq wq hL hd st wi
            obtain ⟨u4, e4, V4⟩ := st.val 4 _ _ rfl rfl (hd ⟨4, .data⟩ (by simp) rfl)
            obtain rfl : B p = u4 := V4.symm
            obtain ⟨u8, e8, V8⟩ := st.val 8 _ _ rfl rfl (hd ⟨8, .data⟩ (by simp) rfl)
            obtain rfl : B q = u8 := V8.symm
            exact opTo_val (v := B (p ^^^ q)) rfl (by simp [go_sem, Act.eval, e4, e8]) ⟨(fun h => by cases h), rfl, wi⟩
          | 10, _ =>
            refine steps_of rfl ?_
            intro L aq wq hL hd st wi
            have o2 := st.outside (t := 2) rfl (v := .slice (some ⟨b3, o3, none⟩) n3 cap3) rfl
            exact opTo_val (v := .slice (some ⟨b3, o3, none⟩) n3 cap3) rfl (ex_move (.inl rfl) (eval_tmp o2)) ⟨(fun h => by cases h), rfl, wi⟩
          | 11, _ =>
            refine steps_of rfl ?_
            intro L aq wq hL hd st wi
            have o9 := st.outside (t := 9) rfl (v := .int .i64 (j : Int)) rfl
            exact opTo_val (v := .int .i64 (j : Int)) rfl (ex_move (.inl rfl) (eval_tmp o9)) ⟨(fun h => by cases h), rfl, wi⟩
          | 12, _ =>
            refine steps_of rfl ?_
            intro L aq wq hL hd st wi
            obtain ⟨u10, e10, V10⟩ := st.val 10 _ _ rfl rfl (hd ⟨10, .data⟩ (by simp) rfl)
            obtain rfl : .slice (some ⟨b3, o3, none⟩) n3 cap3 = u10 := V10.symm
            obtain ⟨u11, e11, V11⟩ := st.val 11 _ _ rfl rfl (hd ⟨11, .data⟩ (by simp) rfl)
            obtain rfl : .int .i64 (j : Int) = u11 := V11.symm
            exact opTo_val (v := .pointer (some ⟨b3, o3 + j * 1, none⟩)) rfl (ex_idx rfl Try.underlying22 (by kernel_rfl) b3 o3 n3 cap3 j (eval_tmp e10) (eval_tmp e11) (by omega)) ⟨(fun h => by cases h), rfl, wi⟩
          | 13, _ =>
            refine steps_of rfl ?_
            intro L aq wq hL hd st wi
            obtain ⟨u12, e12, V12⟩ := st.val 12 _ _ rfl rfl (hd ⟨12, .data⟩ (by simp) rfl)
            obtain rfl : .pointer (some ⟨b3, o3 + j * 1, none⟩) = u12 := V12.symm
            have h15 : L 15 = false := by
              cases h : L 15
              · rfl
              · have h14 := st.closed 15 _ rfl h ⟨14, .data⟩ (by simp) rfl
                have h13 := st.closed 14 _ rfl h14 ⟨13, .data⟩ (by simp) rfl
                rw [hL] at h13; cases h13
            refine opTo_val (v := B r) rfl (ex_load1 rfl oneU8 (eval_tmp e12) ?_) ⟨(fun h => by cases h), rfl, wi⟩
            rw [← (wi.1 h15).2]; exact hc3
          | 14, _ =>
            refine steps_of rfl ?_
            intro L aq wq hL hd st wi
            obtain ⟨u9, e9, V9⟩ := st.val 9 _ _ rfl rfl (hd ⟨9, .data⟩ (by simp) rfl)
            obtain rfl : B (p ^^^ q) = u9 := V9.symm
            obtain ⟨u13, e13, V13⟩ := st.val 13 _ _ rfl rfl (hd ⟨13, .data⟩ (by simp) rfl)
            obtain rfl : B r = u13 := V13.symm
            exact opTo_val (v := B (p ^^^ q ^^^ r)) rfl (by simp [go_sem, Act.eval, e9, e13]) ⟨(fun h => by cases h), rfl, wi⟩
          | 15, _ =>
            refine steps_of rfl ?_
            intro L aq wq hL hd st wi
            obtain ⟨u14, e14, V14⟩ := st.val 14 _ _ rfl rfl (hd ⟨14, .data⟩ (by simp) rfl)
            obtain rfl : B (p ^^^ q ^^^ r) = u14 := V14.symm
            obtain ⟨w1, w2, w3, w4⟩ := wi
            obtain ⟨h16, rfl⟩ := w1 hL
            refine opTo_val (v := .slice (some ⟨W0.heap.size, 0, none⟩) 1 1) (w' := W0.alloc (.cells #[B (p ^^^ q ^^^ r)] 5)) rfl (by simp [go_sem, Act.eval, e14]) ⟨(fun h => by cases h), rfl, ?_, ?_, ?_, w4⟩
            · intro h; simp [setL] at h
            · intro _ _; rfl
            · intro h; simp [setL, h16] at h
          | 16, _ =>
            refine steps_of rfl ?_
            intro L aq wq hL hd st wi
            obtain ⟨u0, e0, V0⟩ := st.val 0 _ _ rfl rfl (hd ⟨0, .data⟩ (by simp) rfl)
            obtain rfl : v = u0 := V0.symm
            obtain ⟨u15, e15, V15⟩ := st.val 15 _ _ rfl rfl (hd ⟨15, .data⟩ (by simp) rfl)
            obtain rfl : .slice (some ⟨W0.heap.size, 0, none⟩) 1 1 = u15 := V15.symm
            obtain ⟨w1, w2, w3, w4⟩ := wi
            have h15 := hd ⟨15, .data⟩ (by simp) rfl
            obtain rfl := w2 h15 hL
            obtain ⟨v', w', hrun, r1, r2, _⟩ := run_append_own (P := Try.prog) (W0.alloc (.cells #[B (p ^^^ q ^^^ r)] 5)) base 22 22 5 i0 (.int .u8 0) 1 1 Try.underlying22 hi0 hz0 hz1 hz2 rfl (by decide)
              v j xs (hown.alloc _) ⟨W0.heap.size, 0, none⟩ 1 1 [B (p ^^^ q ^^^ r)] rfl (by intro j' u hu; rw [addr_add, cell_of_row _ _ _ _ _ _ (World.alloc_heap_new W0 _)]; rw [Nat.zero_add, List.getElem?_toArray]; exact hu) (by intro u hu; obtain rfl := List.mem_singleton.1 hu; rfl)
              (by simp only [maxLen]; omega) (by omega) (by simp; omega)
            refine opTo_val (v := v') (w' := w') rfl (by simp [execOp, resolve, invoke, builtin, Act.eval, e0, e15, hrun, Result.andThen]) ⟨(fun h => by cases h), trivial, ?_, ?_, ?_, ?_⟩
            · intro h; simp [setL, h15] at h
            · intro _ h; simp [setL] at h
            · intro _
              exact ⟨r1, (hag0.alloc _).grown r2 (fun k hk => by have := (World.ownsRow.lt hown k hk).1; omega)⟩
            · intro h
              have h16 := st.closed 17 _ rfl (show L 17 = true from h) ⟨16, .data⟩ (by simp) rfl
              rw [hL] at h16; cases h16
          | 17, _ =>
            refine steps_of rfl ?_
            intro L aq wq hL hd st wi
            obtain ⟨u16, e16, V16⟩ := st.val 16 _ _ rfl rfl (hd ⟨16, .data⟩ (by simp) rfl)
            obtain ⟨w1, w2, w3, w4⟩ := wi
            refine opTo_val (v := u16) rfl (ex_move (.inr rfl) (eval_tmp e16)) ⟨(fun h => by cases h), trivial, w1, w2, w3, fun _ => ?_⟩
            simp only [updV, if_true]
            rw [if_neg (by decide)]
            exact (slotV_val rfl rfl e16).symm
          | (i + 18), h => omega
        case hend =>
          intro vals w' hV hW
          obtain ⟨hW1, hW2⟩ := hW.2.2.1 rfl
          have x17 := hW.2.2.2 rfl
          generalize hvn : vals 16 = vn at *
          have x0 : vals 0 = v := hV 0 _ _ rfl rfl
          have x1 : vals 1 = .slice (some ⟨b1, o1, none⟩) n1 cap1 := hV 1 _ _ rfl rfl
          have x2 : vals 2 = .int .i64 (j : Int) := hV 2 _ _ rfl rfl
          have x3 : vals 3 = .pointer (some ⟨b1, o1 + j * 1, none⟩) := hV 3 _ _ rfl rfl
          have x4 : vals 4 = B p := hV 4 _ _ rfl rfl
          have x5 : vals 5 = .slice (some ⟨b2, o2, none⟩) n2 cap2 := hV 5 _ _ rfl rfl
          have x6 : vals 6 = .int .i64 (j : Int) := hV 6 _ _ rfl rfl
          have x7 : vals 7 = .pointer (some ⟨b2, o2 + j * 1, none⟩) := hV 7 _ _ rfl rfl
          have x8 : vals 8 = B q := hV 8 _ _ rfl rfl
          have x9 : vals 9 = B (p ^^^ q) := hV 9 _ _ rfl rfl
          have x10 : vals 10 = .slice (some ⟨b3, o3, none⟩) n3 cap3 := hV 10 _ _ rfl rfl
          have x11 : vals 11 = .int .i64 (j : Int) := hV 11 _ _ rfl rfl
          have x12 : vals 12 = .pointer (some ⟨b3, o3 + j * 1, none⟩) := hV 12 _ _ rfl rfl
          have x13 : vals 13 = B r := hV 13 _ _ rfl rfl
          have x14 : vals 14 = B (p ^^^ q ^^^ r) := hV 14 _ _ rfl rfl
          have x15 : vals 15 = .slice (some ⟨W0.heap.size, 0, none⟩) 1 1 := hV 15 _ _ rfl rfl
          simp only [putAll, Act.put, List.setIfInBounds_toArray, List.set_cons_succ, List.set_cons_zero, x0, x1, x2, x3, x4, x5, x6, x7, x8, x9, x10, x11, x12, x13, x14, x15, hvn, x17]
          have HN : RowKit.Hid (w'.ownsRow w.heap.size 5 1 vn (j + 1) ((xorTo x y z (j + 1)).map B) ∧ Agrees All w w') := by
            refine ⟨?_, hW2⟩
            rw [HS.out, List.map_append]
            exact hW1
          clear hV hW x0 x1 x2 x3 x4 x5 x6 x7 x8 x9 x10 x11 x12 x13 x14 x15 x17 hW1 hW2 hc1 hc2 hc3 hc1' hc2' hc3' hown hag0 hW0 HC1 HC2 HC3 hvn hi0 hz0 hz1 hz2
          go_wp2_with fail
          exact ⟨⟨j + 1, _, by omega, by simp, rfl, HN⟩, by simp [intOf]; omega⟩

      · have hjn : n3 = j := by omega
        subst hjn
        have hcap1 := HX.out.cap
        have hcap2 := HY.out.cap
        have hcap3 := HZ.out.cap
        have hbv0 := own_bytes HJ.out.1
        obtain ⟨av, nv, cv, rfl, _⟩ := id hbv0
        have HB1 := Lib.hid (BytesAt.slice (HX.out.agrees HJ.out.2.drew fun _ h => h) 0 n3 (by omega) (by omega))
        have HB2 := Lib.hid (BytesAt.slice (HY.out.agrees HJ.out.2.drew fun _ h => h) 0 n3 (by omega) (by omega))
        have HB3 := Lib.hid (BytesAt.slice (HZ.out.agrees HJ.out.2.drew fun _ h => h) 0 n3 (by omega) (by omega))
        have HBV := Lib.hid (BytesAt.agrees hbv0 (Agrees.refl All wr).drew fun _ h => h)
        have HSUM := Lib.hid (sum_xorTo x y z n3 (by rw [HX.out.len]; omega) (by rw [HY.out.len]; omega) (by rw [HZ.out.len]; omega))
        clear hbv0
        go_wp2_with fail
        have hb1 := HB1.out
        have hb2 := HB2.out
        have hb3 := HB3.out
        have hbv := HBV.out
        have hsum : (sum (xorTo x y z n3) == sum ((x.drop 0).take (n3 - 0)) ^^^ sum ((y.drop 0).take (n3 - 0)) ^^^ sum ((z.drop 0).take (n3 - 0))) = true := by
          simp only [List.drop_zero, Nat.sub_zero]; rw [HSUM.out]; simp
        obtain ⟨W0, hW0⟩ : ∃ W0, wr.drew = W0 := ⟨_, rfl⟩
        rw [hW0] at hb1 hb2 hb3 hbv
        generalize hsq : sum (xorTo x y z n3) = s at *
        have hE1 : sum ((x.drop 0).take (n3 - 0)) = sum ((x.drop 0).take (n3 - 0)) := rfl
        generalize hs1q : sum ((x.drop 0).take (n3 - 0)) = s1 at *
        generalize hs2q : sum ((y.drop 0).take (n3 - 0)) = s2 at *
        generalize hs3q : sum ((z.drop 0).take (n3 - 0)) = s3 at *
        clear hE1
        have HA := Lib.hid (show Agrees All w W0 by rw [← hW0]; exact HJ.out.2.drew)
        refine wp_region_plan (by kernel_rfl) ?hok2 (by kernel_rfl) (vSums a1 a2 a3 av n1 cap1 n2 cap2 n3 cap3 nv cv n3 s s1 s2 s3) (wiSums W0 (.slice av nv cv) (.slice (slA a1 0 cap1) (n3 - 0) (cap1 - 0)) (.slice (slA a2 0 cap2) (n3 - 0) (cap2 - 0)) (.slice (slA a3 0 cap3) (n3 - 0) (cap3 - 0))) ?h02 (fun i hi => ?steps2) ?hend2
        case hok2 => kernel_rfl
        case h02 => exact fun vals => ⟨by rw [← hW0]; exact Agrees.refl _ _, fun h => (by cases h), fun h => (by cases h), fun h => (by cases h), fun h => (by cases h)⟩
        case steps2 =>
          have hi' : i < 25 := hi
          match i, hi' with
          | 0, _ =>
            refine steps_of rfl ?_
            intro L aq wq hL hd st wi
            have o8 := st.outside (t := 8) rfl (v := .slice av nv cv) rfl
            exact opTo_val (v := .slice av nv cv) rfl (ex_move (.inl rfl) (eval_tmp o8)) ⟨(fun h => by cases h), rfl, wi⟩
          | 1, _ =>
            refine steps_of rfl ?_
            intro L aq wq hL hd st wi
            obtain ⟨u0, e0, V0⟩ := st.val 0 _ _ rfl rfl (hd ⟨0, .data⟩ (by simp) rfl)
            obtain rfl : .slice av nv cv = u0 := V0.symm
            obtain ⟨ag, r1, r2, r3, r4⟩ := wi
            exact opTo_val (v := .slice (some ⟨wq.heap.size, 0, none⟩) 1 1) (w' := wq.alloc (.cells #[.slice av nv cv] 22)) rfl (by simp [go_sem, Act.eval, e0]) ⟨(fun h => by cases h), trivial, ag.alloc _, fun _ => ⟨_, rfl, World.alloc_heap_new wq _⟩, fun h => (r2 h).agrees ((Agrees.refl _ wq).alloc _), fun h => (r3 h).agrees ((Agrees.refl _ wq).alloc _), fun h => (r4 h).agrees ((Agrees.refl _ wq).alloc _)⟩
          | 2, _ =>
            refine steps_of rfl ?_
            intro L aq wq hL hd st wi
            obtain ⟨u1, e1, V1⟩ := st.val 1 _ _ rfl rfl (hd ⟨1, .data⟩ (by simp) rfl)
            have hr := wi.2.1 (hd ⟨1, .data⟩ (by simp) rfl)
            rw [slotV_val rfl rfl e1] at hr
            obtain ⟨b, rfl, hb⟩ := hr
            refine opTo_call (w' := wq) (f := 13) (args := #[.slice (some ⟨b, 0, none⟩) 1 1]) rfl (by simp [go_sem, Act.eval, e1]) ((sum_row wq b _ _ _ _ _ hb (hbv.agrees wi.1 fun _ h => h)).mono ?_)
            rintro e w' ⟨rfl, hag⟩
            exact ⟨U (s), by rw [hsq], (fun h => by cases h), rfl, wiSums_mono wi hag⟩
          | 3, _ =>
            refine steps_of rfl ?_
            intro L aq wq hL hd st wi
            have o0 := st.outside (t := 0) rfl (v := .slice a1 n1 cap1) rfl
            exact opTo_val (v := .slice a1 n1 cap1) rfl (ex_move (.inl rfl) (eval_tmp o0)) ⟨(fun h => by cases h), rfl, wi⟩
          | 4, _ =>
            refine steps_of rfl ?_
            intro L aq wq hL hd st wi
            have o7 := st.outside (t := 7) rfl (v := .int .i64 (n3 : Int)) rfl
            exact opTo_val (v := .int .i64 (n3 : Int)) rfl (ex_move (.inl rfl) (eval_tmp o7)) ⟨(fun h => by cases h), rfl, wi⟩
          | 5, _ =>
            refine steps_of rfl ?_
            intro L aq wq hL hd st wi
            obtain ⟨u3, e3, V3⟩ := st.val 3 _ _ rfl rfl (hd ⟨3, .data⟩ (by simp) rfl)
            obtain rfl : .slice a1 n1 cap1 = u3 := V3.symm
            obtain ⟨u4, e4, V4⟩ := st.val 4 _ _ rfl rfl (hd ⟨4, .data⟩ (by simp) rfl)
            obtain rfl : .int .i64 (n3 : Int) = u4 := V4.symm
            exact opTo_val (v := .slice (slA a1 0 cap1) (n3 - 0) (cap1 - 0)) rfl (ex_slice rfl Try.underlying22 (by kernel_rfl) a1 n1 cap1 0 n3 (eval_tmp e3) (.inr ⟨rfl, rfl⟩) (.inl (by simp [Act.eval, e4])) (by omega) (by omega)) ⟨(fun h => by cases h), rfl, wi⟩
          | 6, _ =>
            refine steps_of rfl ?_
            intro L aq wq hL hd st wi
            obtain ⟨u5, e5, V5⟩ := st.val 5 _ _ rfl rfl (hd ⟨5, .data⟩ (by simp) rfl)
            obtain rfl : .slice (slA a1 0 cap1) (n3 - 0) (cap1 - 0) = u5 := V5.symm
            obtain ⟨ag, r1, r2, r3, r4⟩ := wi
            exact opTo_val (v := .slice (some ⟨wq.heap.size, 0, none⟩) 1 1) (w' := wq.alloc (.cells #[.slice (slA a1 0 cap1) (n3 - 0) (cap1 - 0)] 22)) rfl (by simp [go_sem, Act.eval, e5]) ⟨(fun h => by cases h), trivial, ag.alloc _, fun h => (r1 h).agrees ((Agrees.refl _ wq).alloc _), fun _ => ⟨_, rfl, World.alloc_heap_new wq _⟩, fun h => (r3 h).agrees ((Agrees.refl _ wq).alloc _), fun h => (r4 h).agrees ((Agrees.refl _ wq).alloc _)⟩
          | 7, _ =>
            refine steps_of rfl ?_
            intro L aq wq hL hd st wi
            obtain ⟨u6, e6, V6⟩ := st.val 6 _ _ rfl rfl (hd ⟨6, .data⟩ (by simp) rfl)
            have hr := wi.2.2.1 (hd ⟨6, .data⟩ (by simp) rfl)
            rw [slotV_val rfl rfl e6] at hr
            obtain ⟨b, rfl, hb⟩ := hr
            refine opTo_call (w' := wq) (f := 13) (args := #[.slice (some ⟨b, 0, none⟩) 1 1]) rfl (by simp [go_sem, Act.eval, e6]) ((sum_row wq b _ _ _ _ _ hb (hb1.agrees wi.1 fun _ h => h)).mono ?_)
            rintro e w' ⟨rfl, hag⟩
            exact ⟨U (s1), by rw [hs1q], (fun h => by cases h), rfl, wiSums_mono wi hag⟩
          | 8, _ =>
            refine steps_of rfl ?_
            intro L aq wq hL hd st wi
            have o1 := st.outside (t := 1) rfl (v := .slice a2 n2 cap2) rfl
            exact opTo_val (v := .slice a2 n2 cap2) rfl (ex_move (.inl rfl) (eval_tmp o1)) ⟨(fun h => by cases h), rfl, wi⟩
          | 9, _ =>
            refine steps_of rfl ?_
            intro L aq wq hL hd st wi
            have o7 := st.outside (t := 7) rfl (v := .int .i64 (n3 : Int)) rfl
            exact opTo_val (v := .int .i64 (n3 : Int)) rfl (ex_move (.inl rfl) (eval_tmp o7)) ⟨(fun h => by cases h), rfl, wi⟩
          | 10, _ =>
            refine steps_of rfl ?_
            intro L aq wq hL hd st wi
            obtain ⟨u8, e8, V8⟩ := st.val 8 _ _ rfl rfl (hd ⟨8, .data⟩ (by simp) rfl)
            obtain rfl : .slice a2 n2 cap2 = u8 := V8.symm
            obtain ⟨u9, e9, V9⟩ := st.val 9 _ _ rfl rfl (hd ⟨9, .data⟩ (by simp) rfl)
            obtain rfl : .int .i64 (n3 : Int) = u9 := V9.symm
            exact opTo_val (v := .slice (slA a2 0 cap2) (n3 - 0) (cap2 - 0)) rfl (ex_slice rfl Try.underlying22 (by kernel_rfl) a2 n2 cap2 0 n3 (eval_tmp e8) (.inr ⟨rfl, rfl⟩) (.inl (by simp [Act.eval, e9])) (by omega) (by omega)) ⟨(fun h => by cases h), rfl, wi⟩
          | 11, _ =>
            refine steps_of rfl ?_
            intro L aq wq hL hd st wi
            obtain ⟨u10, e10, V10⟩ := st.val 10 _ _ rfl rfl (hd ⟨10, .data⟩ (by simp) rfl)
            obtain rfl : .slice (slA a2 0 cap2) (n3 - 0) (cap2 - 0) = u10 := V10.symm
            obtain ⟨ag, r1, r2, r3, r4⟩ := wi
            exact opTo_val (v := .slice (some ⟨wq.heap.size, 0, none⟩) 1 1) (w' := wq.alloc (.cells #[.slice (slA a2 0 cap2) (n3 - 0) (cap2 - 0)] 22)) rfl (by simp [go_sem, Act.eval, e10]) ⟨(fun h => by cases h), trivial, ag.alloc _, fun h => (r1 h).agrees ((Agrees.refl _ wq).alloc _), fun h => (r2 h).agrees ((Agrees.refl _ wq).alloc _), fun _ => ⟨_, rfl, World.alloc_heap_new wq _⟩, fun h => (r4 h).agrees ((Agrees.refl _ wq).alloc _)⟩
          | 12, _ =>
            refine steps_of rfl ?_
            intro L aq wq hL hd st wi
            obtain ⟨u11, e11, V11⟩ := st.val 11 _ _ rfl rfl (hd ⟨11, .data⟩ (by simp) rfl)
            have hr := wi.2.2.2.1 (hd ⟨11, .data⟩ (by simp) rfl)
            rw [slotV_val rfl rfl e11] at hr
            obtain ⟨b, rfl, hb⟩ := hr
            refine opTo_call (w' := wq) (f := 13) (args := #[.slice (some ⟨b, 0, none⟩) 1 1]) rfl (by simp [go_sem, Act.eval, e11]) ((sum_row wq b _ _ _ _ _ hb (hb2.agrees wi.1 fun _ h => h)).mono ?_)
            rintro e w' ⟨rfl, hag⟩
            exact ⟨U (s2), by rw [hs2q], (fun h => by cases h), rfl, wiSums_mono wi hag⟩
          | 13, _ =>
            refine steps_of rfl ?_
            intro L aq wq hL hd st wi
            obtain ⟨u7, e7, V7⟩ := st.val 7 _ _ rfl rfl (hd ⟨7, .data⟩ (by simp) rfl)
            obtain rfl : U (s1) = u7 := V7.symm
            obtain ⟨u12, e12, V12⟩ := st.val 12 _ _ rfl rfl (hd ⟨12, .data⟩ (by simp) rfl)
            obtain rfl : U (s2) = u12 := V12.symm
            exact opTo_val (v := U (s1 ^^^ s2)) rfl (by simp [go_sem, Act.eval, e7, e12]) ⟨(fun h => by cases h), rfl, wi⟩
          | 14, _ =>
            refine steps_of rfl ?_
            intro L aq wq hL hd st wi
            have o2 := st.outside (t := 2) rfl (v := .slice a3 n3 cap3) rfl
            exact opTo_val (v := .slice a3 n3 cap3) rfl (ex_move (.inl rfl) (eval_tmp o2)) ⟨(fun h => by cases h), rfl, wi⟩
          | 15, _ =>
            refine steps_of rfl ?_
            intro L aq wq hL hd st wi
            have o7 := st.outside (t := 7) rfl (v := .int .i64 (n3 : Int)) rfl
            exact opTo_val (v := .int .i64 (n3 : Int)) rfl (ex_move (.inl rfl) (eval_tmp o7)) ⟨(fun h => by cases h), rfl, wi⟩
          | 16, _ =>
            refine steps_of rfl ?_
            intro L aq wq hL hd st wi
            obtain ⟨u14, e14, V14⟩ := st.val 14 _ _ rfl rfl (hd ⟨14, .data⟩ (by simp) rfl)
            obtain rfl : .slice a3 n3 cap3 = u14 := V14.symm
            obtain ⟨u15, e15, V15⟩ := st.val 15 _ _ rfl rfl (hd ⟨15, .data⟩ (by simp) rfl)
            obtain rfl : .int .i64 (n3 : Int) = u15 := V15.symm
            exact opTo_val (v := .slice (slA a3 0 cap3) (n3 - 0) (cap3 - 0)) rfl (ex_slice rfl Try.underlying22 (by kernel_rfl) a3 n3 cap3 0 n3 (eval_tmp e14) (.inr ⟨rfl, rfl⟩) (.inl (by simp [Act.eval, e15])) (by omega) (by omega)) ⟨(fun h => by cases h), rfl, wi⟩
          | 17, _ =>
            refine steps_of rfl ?_
            intro L aq wq hL hd st wi
            obtain ⟨u16, e16, V16⟩ := st.val 16 _ _ rfl rfl (hd ⟨16, .data⟩ (by simp) rfl)
            obtain rfl : .slice (slA a3 0 cap3) (n3 - 0) (cap3 - 0) = u16 := V16.symm
            obtain ⟨ag, r1, r2, r3, r4⟩ := wi
            exact opTo_val (v := .slice (some ⟨wq.heap.size, 0, none⟩) 1 1) (w' := wq.alloc (.cells #[.slice (slA a3 0 cap3) (n3 - 0) (cap3 - 0)] 22)) rfl (by simp [go_sem, Act.eval, e16]) ⟨(fun h => by cases h), trivial, ag.alloc _, fun h => (r1 h).agrees ((Agrees.refl _ wq).alloc _), fun h => (r2 h).agrees ((Agrees.refl _ wq).alloc _), fun h => (r3 h).agrees ((Agrees.refl _ wq).alloc _), fun _ => ⟨_, rfl, World.alloc_heap_new wq _⟩⟩
          | 18, _ =>
            refine steps_of rfl ?_
            intro L aq wq hL hd st wi
            obtain ⟨u17, e17, V17⟩ := st.val 17 _ _ rfl rfl (hd ⟨17, .data⟩ (by simp) rfl)
            have hr := wi.2.2.2.2 (hd ⟨17, .data⟩ (by simp) rfl)
            rw [slotV_val rfl rfl e17] at hr
            obtain ⟨b, rfl, hb⟩ := hr
            refine opTo_call (w' := wq) (f := 13) (args := #[.slice (some ⟨b, 0, none⟩) 1 1]) rfl (by simp [go_sem, Act.eval, e17]) ((sum_row wq b _ _ _ _ _ hb (hb3.agrees wi.1 fun _ h => h)).mono ?_)
            rintro e w' ⟨rfl, hag⟩
            exact ⟨U (s3), by rw [hs3q], (fun h => by cases h), rfl, wiSums_mono wi hag⟩
          | 19, _ =>
            refine steps_of rfl ?_
            intro L aq wq hL hd st wi
            obtain ⟨u13, e13, V13⟩ := st.val 13 _ _ rfl rfl (hd ⟨13, .data⟩ (by simp) rfl)
            obtain rfl : U (s1 ^^^ s2) = u13 := V13.symm
            obtain ⟨u18, e18, V18⟩ := st.val 18 _ _ rfl rfl (hd ⟨18, .data⟩ (by simp) rfl)
            obtain rfl : U (s3) = u18 := V18.symm
            exact opTo_val (v := U (s1 ^^^ s2 ^^^ s3)) rfl (by simp [go_sem, Act.eval, e13, e18]) ⟨(fun h => by cases h), rfl, wi⟩
          | 20, _ =>
            refine steps_of rfl ?_
            intro L aq wq hL hd st wi
            obtain ⟨u2, e2, V2⟩ := st.val 2 _ _ rfl rfl (hd ⟨2, .data⟩ (by simp) rfl)
            obtain rfl : U (s) = u2 := V2.symm
            obtain ⟨u19, e19, V19⟩ := st.val 19 _ _ rfl rfl (hd ⟨19, .data⟩ (by simp) rfl)
            obtain rfl : U (s1 ^^^ s2 ^^^ s3) = u19 := V19.symm
            exact opTo_val (v := .bool true) rfl (by simp [go_sem, Act.eval, e2, e19, hsum]) ⟨(fun h => by cases h), rfl, wi⟩
          | 21, _ =>
            refine steps_of rfl ?_
            intro L aq wq hL hd st wi
            obtain ⟨u20, e20, V20⟩ := st.val 20 _ _ rfl rfl (hd ⟨20, .data⟩ (by simp) rfl)
            obtain rfl : .bool true = u20 := V20.symm
            exact opTo_val (v := .bool true) rfl (ex_move (.inl rfl) (eval_tmp e20)) ⟨(fun h => by cases h), rfl, wi⟩
          | 22, _ =>
            refine steps_of rfl ?_
            intro L aq wq hL hd st wi
            obtain ⟨u21, e21, V21⟩ := st.val 21 _ _ rfl rfl (hd ⟨21, .chain⟩ (by simp) rfl)
            obtain rfl : .bool true = u21 := V21.symm
            refine opTo_call (w' := wq) (f := 12) (args := #[]) (by simp [Region.wanted, yielded, e21]) (by simp [go_sem, Act.eval]) ((wakes01_calls wq).mono ?_)
            rintro e w' ⟨rfl, hag⟩
            exact ⟨_, rfl, (fun h => by cases h), rfl, wiSums_mono wi hag⟩
          | 23, _ =>
            refine steps_of rfl ?_
            intro L aq wq hL hd st wi
            obtain ⟨u21, e21, V21⟩ := st.val 21 _ _ rfl rfl (hd ⟨21, .data⟩ (by simp) rfl)
            obtain rfl : .bool true = u21 := V21.symm
            obtain ⟨u22, e22, V22⟩ := st.val 22 _ _ rfl rfl (hd ⟨22, .data⟩ (by simp) rfl)
            obtain rfl : .bool true = u22 := V22.symm
            exact opTo_val (v := .bool true) rfl (by simp [go_sem, Act.eval, e21, e22]) ⟨(fun h => by cases h), rfl, wi⟩
          | 24, _ =>
            refine steps_of rfl ?_
            intro L aq wq hL hd st wi
            obtain ⟨u23, e23, V23⟩ := st.val 23 _ _ rfl rfl (hd ⟨23, .data⟩ (by simp) rfl)
            obtain rfl : .bool true = u23 := V23.symm
            exact opTo_val (v := .bool true) rfl (ex_move (.inr rfl) (eval_tmp e23)) ⟨(fun h => by cases h), rfl, wi⟩
          | (i + 25), h => omega
        case hend2 =>
          intro vals w' hV hW
          have hF := Lib.hid (HA.out.trans hW.1)
          have x24 : vals 24 = .bool true := hV 24 _ _ rfl rfl
          simp only [putAll, Act.put, List.setIfInBounds_toArray, List.set_cons_succ, List.set_cons_zero, x24]
          clear hV hW hsq hs1q hs2q hs3q
          go_wp2_with fail
          go_ret
          exact ⟨rfl, hF.out⟩
  · have hle : (n2 ≤ n1 ∧ n2 ≤ n2 ∧ n2 ≤ n3) ∧ n2 ≤ 1000 := by omega
    have HX := Lib.hid hx
    have HY := Lib.hid hy
    have HZ := Lib.hid hz
    clear hx hy hz
    go_loopw [8, 9] (fun c ii wr => ∃ (j : Nat) (v : Value), j ≤ n2 ∧ ii = .int .i64 j ∧ v = c ∧ RowKit.Hid (wr.ownsRow w.heap.size 5 1 v j ((xorTo x y z j).map B) ∧ Agrees All w wr)) (fun _ ii _ => n2 - (intOf ii).toNat)
    case atStart => exact ⟨0, _, by omega, rfl, rfl, World.ownsRow_nil _ _ _ _, Agrees.refl _ _⟩
    case round =>
      obtain ⟨j, v, hj, rfl, rfl, HJ⟩ := hrel
      by_cases hlt : j < n2
      · obtain ⟨b1, o1, rfl, _, hs1, hc1⟩ := HX.out.at.2.2 j (by omega)
        obtain ⟨b2, o2, rfl, _, hs2, hc2⟩ := HY.out.at.2.2 j (by omega)
        obtain ⟨b3, o3, rfl, _, hs3, hc3⟩ := HZ.out.at.2.2 j (by omega)
        have HS := Lib.hid (xorTo_succ x y z j (by rw [HX.out.len]; omega) (by rw [HY.out.len]; omega) (by rw [HZ.out.len]; omega))
        have HC1 := Lib.hid ((HJ.out.2.cell (p := ⟨b1, o1 + j, none⟩) hs1 trivial).trans hc1)
        have HC2 := Lib.hid ((HJ.out.2.cell (p := ⟨b2, o2 + j, none⟩) hs2 trivial).trans hc2)
        have HC3 := Lib.hid ((HJ.out.2.cell (p := ⟨b3, o3 + j, none⟩) hs3 trivial).trans hc3)
        clear hc1 hc2 hc3
        generalize x.getD j 0 = p at *
        generalize y.getD j 0 = q at *
        generalize z.getD j 0 = r at *
        go_wp2_with fail
        have hc1 := HC1.out
        have hc2 := HC2.out
        have hc3 := HC3.out
        have hown : wr.drew.ownsRow w.heap.size 5 1 v j ((xorTo x y z j).map B) := HJ.out.1
        have hag0 := HJ.out.2.drew
        have hsz0 := HJ.out.2.size
        obtain ⟨i0, hi0, hz0, hz1, hz2⟩ := info_parts infoU8
        obtain ⟨W0, hW0⟩ : ∃ W0, wr.drew = W0 := ⟨_, rfl⟩
        have hc1' : W0.cell? ⟨b1, o1 + j * 1, none⟩ = some (B p) := by rw [← hW0, Nat.mul_one]; exact hc1
        have hc2' : W0.cell? ⟨b2, o2 + j * 1, none⟩ = some (B q) := by rw [← hW0, Nat.mul_one]; exact hc2
        have hc3' : W0.cell? ⟨b3, o3 + j * 1, none⟩ = some (B r) := by rw [← hW0, Nat.mul_one]; exact hc3
        have hszW : w.heap.size ≤ W0.heap.size := by rw [← hW0]; exact hsz0
        rw [hW0] at hown hag0
        refine wp_region_plan (by kernel_rfl) ?hok (by kernel_rfl) (vThree W0 v b1 o1 n1 cap1 b2 o2 n2 cap2 b3 o3 n3 cap3 j p q r) (wiThree w W0 w.heap.size j ((xorTo x y z j).map B) (p ^^^ q ^^^ r)) ?h0 (fun i hi => ?steps) ?hend
        case hok => kernel_rfl
        case h0 => exact fun vals => ⟨fun _ => ⟨rfl, hW0.symm⟩, fun h => (by cases h), fun h => (by cases h), fun h => (by cases h)⟩
        case steps =>
          generalize hxs : (xorTo x y z j).map B = xs at *
          generalize hba : w.heap.size = base at *
          have hc1 := hc1'
          have hc2 := hc2'
          have hc3 := hc3'
          have hi' : i < 18 := hi
          match i, hi' with
          | 0, _ =>
            refine steps_of rfl ?_
            intro L aq wq hL hd st wi
            have o8 := st.before (by kernel_rfl) hL (k := 17) rfl rfl (e := ⟨0, .phase⟩) (by simp) rfl rfl (v := v) rfl
            exact opTo_val (v := v) rfl (ex_move (.inl rfl) (eval_tmp o8)) ⟨(fun h => by cases h), rfl, wi⟩
          | 1, _ =>
            refine steps_of rfl ?_
            intro L aq wq hL hd st wi
            have o0 := st.outside (t := 0) rfl (v := .slice (some ⟨b1, o1, none⟩) n1 cap1) rfl
            exact opTo_val (v := .slice (some ⟨b1, o1, none⟩) n1 cap1) rfl (ex_move (.inl rfl) (eval_tmp o0)) ⟨(fun h => by cases h), rfl, wi⟩
          | 2, _ =>
            refine steps_of rfl ?_
            intro L aq wq hL hd st wi
            have o9 := st.outside (t := 9) rfl (v := .int .i64 (j : Int)) rfl
            exact opTo_val (v := .int .i64 (j : Int)) rfl (ex_move (.inl rfl) (eval_tmp o9)) ⟨(fun h => by cases h), rfl, wi⟩
          | 3, _ =>
            refine steps_of rfl ?_
            intro L aq wq hL hd st wi
            obtain ⟨u1, e1, V1⟩ := st.val 1 _ _ rfl rfl (hd ⟨1, .data⟩ (by simp) rfl)
            obtain rfl : .slice (some ⟨b1, o1, none⟩) n1 cap1 = u1 := V1.symm
            obtain ⟨u2, e2, V2⟩ := st.val 2 _ _ rfl rfl (hd ⟨2, .data⟩ (by simp) rfl)
            obtain rfl : .int .i64 (j : Int) = u2 := V2.symm
            exact opTo_val (v := .pointer (some ⟨b1, o1 + j * 1, none⟩)) rfl (ex_idx rfl Try.underlying22 (by kernel_rfl) b1 o1 n1 cap1 j (eval_tmp e1) (eval_tmp e2) (by omega)) ⟨(fun h => by cases h), rfl, wi⟩
          | 4, _ =>
            refine steps_of rfl ?_
            intro L aq wq hL hd st wi
            obtain ⟨u3, e3, V3⟩ := st.val 3 _ _ rfl rfl (hd ⟨3, .data⟩ (by simp) rfl)
            obtain rfl : .pointer (some ⟨b1, o1 + j * 1, none⟩) = u3 := V3.symm
            have h15 : L 15 = false := by
              cases h : L 15
              · rfl
              · have h14 := st.closed 15 _ rfl h ⟨14, .data⟩ (by simp) rfl
                have h9 := st.closed 14 _ rfl h14 ⟨9, .data⟩ (by simp) rfl
                have h4 := st.closed 9 _ rfl h9 ⟨4, .data⟩ (by simp) rfl
                rw [hL] at h4; cases h4
            refine opTo_val (v := B p) rfl (ex_load1 rfl oneU8 (eval_tmp e3) ?_) ⟨(fun h => by cases h), rfl, wi⟩
            rw [← (wi.1 h15).2]; exact hc1
          | 5, _ =>
            refine steps_of rfl ?_
            intro L aq wq hL hd st wi
            have o1 := st.outside (t := 1) rfl (v := .slice (some ⟨b2, o2, none⟩) n2 cap2) rfl
            exact opTo_val (v := .slice (some ⟨b2, o2, none⟩) n2 cap2) rfl (ex_move (.inl rfl) (eval_tmp o1)) ⟨(fun h => by cases h), rfl, wi⟩
          | 6, _ =>
            refine steps_of rfl ?_
            intro L aq wq hL hd st wi
            have o9 := st.outside (t := 9) rfl (v := .int .i64 (j : Int)) rfl
            exact opTo_val (v := .int .i64 (j : Int)) rfl (ex_move (.inl rfl) (eval_tmp o9)) ⟨(fun h => by cases h), rfl, wi⟩
          | 7, _ =>
            refine steps_of rfl ?_
            intro L aq wq hL hd st wi
            obtain ⟨u5, e5, V5⟩ := st.val 5 _ _ rfl rfl (hd ⟨5, .data⟩ (by simp) rfl)
            obtain rfl : .slice (some ⟨b2, o2, none⟩) n2 cap2 = u5 := V5.symm
            obtain ⟨u6, e6, V6⟩ := st.val 6 _ _ rfl rfl (hd ⟨6, .data⟩ (by simp) rfl)
            obtain rfl : .int .i64 (j : Int) = u6 := V6.symm
            exact opTo_val (v := .pointer (some ⟨b2, o2 + j * 1, none⟩)) rfl (ex_idx rfl Try.underlying22 (by kernel_rfl) b2 o2 n2 cap2 j (eval_tmp e5) (eval_tmp e6) (by omega)) ⟨(fun h => by cases h), rfl, wi⟩
          | 8, _ =>
            refine steps_of rfl ?_
            intro L aq wq hL hd st wi
            obtain ⟨u7, e7, V7⟩ := st.val 7 _ _ rfl rfl (hd ⟨7, .data⟩ (by simp) rfl)
            obtain rfl : .pointer (some ⟨b2, o2 + j * 1, none⟩) = u7 := V7.symm
            have h15 : L 15 = false := by
              cases h : L 15
              · rfl
              · have h14 := st.closed 15 _ rfl h ⟨14, .data⟩ (by simp) rfl
                have h9 := st.closed 14 _ rfl h14 ⟨9, .data⟩ (by simp) rfl
                have h8 := st.closed 9 _ rfl h9 ⟨8, .data⟩ (by simp) rfl
                rw [hL] at h8; cases h8
            refine opTo_val (v := B q) rfl (ex_load1 rfl oneU8 (eval_tmp e7) ?_) ⟨(fun h => by cases h), rfl, wi⟩
            rw [← (wi.1 h15).2]; exact hc2
          | 9, _ =>
            refine steps_of rfl ?_
            intro L aq wq hL hd st wi
            obtain ⟨u4, e4, V4⟩ := st.val 4 _ _ rfl rfl (hd ⟨4, .data⟩ (by simp) rfl)
            obtain rfl : B p = u4 := V4.symm
            obtain ⟨u8, e8, V8⟩ := st.val 8 _ _ rfl rfl (hd ⟨8, .data⟩ (by simp) rfl)
            obtain rfl : B q = u8 := V8.symm
            exact opTo_val (v := B (p ^^^ q)) rfl (by simp [go_sem, Act.eval, e4, e8]) ⟨(fun h => by cases h), rfl, wi⟩
          | 10, _ =>
            refine steps_of rfl ?_
            intro L aq wq hL hd st wi
            have o2 := st.outside (t := 2) rfl (v := .slice (some ⟨b3, o3, none⟩) n3 cap3) rfl
            exact opTo_val (v := .slice (some ⟨b3, o3, none⟩) n3 cap3) rfl (ex_move (.inl rfl) (eval_tmp o2)) ⟨(fun h => by cases h), rfl, wi⟩
          | 11, _ =>
            refine steps_of rfl ?_
            intro L aq wq hL hd st wi
            have o9 := st.outside (t := 9) rfl (v := .int .i64 (j : Int)) rfl
            exact opTo_val (v := .int .i64 (j : Int)) rfl (ex_move (.inl rfl) (eval_tmp o9)) ⟨(fun h => by cases h), rfl, wi⟩
          | 12, _ =>
            refine steps_of rfl ?_
            intro L aq wq hL hd st wi
            obtain ⟨u10, e10, V10⟩ := st.val 10 _ _ rfl rfl (hd ⟨10, .data⟩ (by simp) rfl)
            obtain rfl : .slice (some ⟨b3, o3, none⟩) n3 cap3 = u10 := V10.symm
            obtain ⟨u11, e11, V11⟩ := st.val 11 _ _ rfl rfl (hd ⟨11, .data⟩ (by simp) rfl)
            obtain rfl : .int .i64 (j : Int) = u11 := V11.symm
            exact opTo_val (v := .pointer (some ⟨b3, o3 + j * 1, none⟩)) rfl (ex_idx rfl Try.underlying22 (by kernel_rfl) b3 o3 n3 cap3 j (eval_tmp e10) (eval_tmp e11) (by omega)) ⟨(fun h => by cases h), rfl, wi⟩
          | 13, _ =>
            refine steps_of rfl ?_
            intro L aq wq hL hd st wi
            obtain ⟨u12, e12, V12⟩ := st.val 12 _ _ rfl rfl (hd ⟨12, .data⟩ (by simp) rfl)
            obtain rfl : .pointer (some ⟨b3, o3 + j * 1, none⟩) = u12 := V12.symm
            have h15 : L 15 = false := by
              cases h : L 15
              · rfl
              · have h14 := st.closed 15 _ rfl h ⟨14, .data⟩ (by simp) rfl
                have h13 := st.closed 14 _ rfl h14 ⟨13, .data⟩ (by simp) rfl
                rw [hL] at h13; cases h13
            refine opTo_val (v := B r) rfl (ex_load1 rfl oneU8 (eval_tmp e12) ?_) ⟨(fun h => by cases h), rfl, wi⟩
            rw [← (wi.1 h15).2]; exact hc3
          | 14, _ =>
            refine steps_of rfl ?_
            intro L aq wq hL hd st wi
            obtain ⟨u9, e9, V9⟩ := st.val 9 _ _ rfl rfl (hd ⟨9, .data⟩ (by simp) rfl)
            obtain rfl : B (p ^^^ q) = u9 := V9.symm
            obtain ⟨u13, e13, V13⟩ := st.val 13 _ _ rfl rfl (hd ⟨13, .data⟩ (by simp) rfl)
            obtain rfl : B r = u13 := V13.symm
            exact opTo_val (v := B (p ^^^ q ^^^ r)) rfl (by simp [go_sem, Act.eval, e9, e13]) ⟨(fun h => by cases h), rfl, wi⟩
          | 15, _ =>
            refine steps_of rfl ?_
            intro L aq wq hL hd st wi
            obtain ⟨u14, e14, V14⟩ := st.val 14 _ _ rfl rfl (hd ⟨14, .data⟩ (by simp) rfl)
            obtain rfl : B (p ^^^ q ^^^ r) = u14 := V14.symm
            obtain ⟨w1, w2, w3, w4⟩ := wi
            obtain ⟨h16, rfl⟩ := w1 hL
            refine opTo_val (v := .slice (some ⟨W0.heap.size, 0, none⟩) 1 1) (w' := W0.alloc (.cells #[B (p ^^^ q ^^^ r)] 5)) rfl (by simp [go_sem, Act.eval, e14]) ⟨(fun h => by cases h), rfl, ?_, ?_, ?_, w4⟩
            · intro h; simp [setL] at h
            · intro _ _; rfl
            · intro h; simp [setL, h16] at h
          | 16, _ =>
            refine steps_of rfl ?_
            intro L aq wq hL hd st wi
            obtain ⟨u0, e0, V0⟩ := st.val 0 _ _ rfl rfl (hd ⟨0, .data⟩ (by simp) rfl)
            obtain rfl : v = u0 := V0.symm
            obtain ⟨u15, e15, V15⟩ := st.val 15 _ _ rfl rfl (hd ⟨15, .data⟩ (by simp) rfl)
            obtain rfl : .slice (some ⟨W0.heap.size, 0, none⟩) 1 1 = u15 := V15.symm
            obtain ⟨w1, w2, w3, w4⟩ := wi
            have h15 := hd ⟨15, .data⟩ (by simp) rfl
            obtain rfl := w2 h15 hL
            obtain ⟨v', w', hrun, r1, r2, _⟩ := run_append_own (P := Try.prog) (W0.alloc (.cells #[B (p ^^^ q ^^^ r)] 5)) base 22 22 5 i0 (.int .u8 0) 1 1 Try.underlying22 hi0 hz0 hz1 hz2 rfl (by decide)
              v j xs (hown.alloc _) ⟨W0.heap.size, 0, none⟩ 1 1 [B (p ^^^ q ^^^ r)] rfl (by intro j' u hu; rw [addr_add, cell_of_row _ _ _ _ _ _ (World.alloc_heap_new W0 _)]; rw [Nat.zero_add, List.getElem?_toArray]; exact hu) (by intro u hu; obtain rfl := List.mem_singleton.1 hu; rfl)
              (by simp only [maxLen]; omega) (by omega) (by simp; omega)
            refine opTo_val (v := v') (w' := w') rfl (by simp [execOp, resolve, invoke, builtin, Act.eval, e0, e15, hrun, Result.andThen]) ⟨(fun h => by cases h), trivial, ?_, ?_, ?_, ?_⟩
            · intro h; simp [setL, h15] at h
            · intro _ h; simp [setL] at h
            · intro _
              exact ⟨r1, (hag0.alloc _).grown r2 (fun k hk => by have := (World.ownsRow.lt hown k hk).1; omega)⟩
            · intro h
              have h16 := st.closed 17 _ rfl (show L 17 = true from h) ⟨16, .data⟩ (by simp) rfl
              rw [hL] at h16; cases h16
          | 17, _ =>
            refine steps_of rfl ?_
            intro L aq wq hL hd st wi
            obtain ⟨u16, e16, V16⟩ := st.val 16 _ _ rfl rfl (hd ⟨16, .data⟩ (by simp) rfl)
            obtain ⟨w1, w2, w3, w4⟩ := wi
            refine opTo_val (v := u16) rfl (ex_move (.inr rfl) (eval_tmp e16)) ⟨(fun h => by cases h), trivial, w1, w2, w3, fun _ => ?_⟩
            simp only [updV, if_true]
            rw [if_neg (by decide)]
            exact (slotV_val rfl rfl e16).symm
          | (i + 18), h => omega
        case hend =>
          intro vals w' hV hW
          obtain ⟨hW1, hW2⟩ := hW.2.2.1 rfl
          have x17 := hW.2.2.2 rfl
          generalize hvn : vals 16 = vn at *
          have x0 : vals 0 = v := hV 0 _ _ rfl rfl
          have x1 : vals 1 = .slice (some ⟨b1, o1, none⟩) n1 cap1 := hV 1 _ _ rfl rfl
          have x2 : vals 2 = .int .i64 (j : Int) := hV 2 _ _ rfl rfl
          have x3 : vals 3 = .pointer (some ⟨b1, o1 + j * 1, none⟩) := hV 3 _ _ rfl rfl
          have x4 : vals 4 = B p := hV 4 _ _ rfl rfl
          have x5 : vals 5 = .slice (some ⟨b2, o2, none⟩) n2 cap2 := hV 5 _ _ rfl rfl
          have x6 : vals 6 = .int .i64 (j : Int) := hV 6 _ _ rfl rfl
          have x7 : vals 7 = .pointer (some ⟨b2, o2 + j * 1, none⟩) := hV 7 _ _ rfl rfl
          have x8 : vals 8 = B q := hV 8 _ _ rfl rfl
          have x9 : vals 9 = B (p ^^^ q) := hV 9 _ _ rfl rfl
          have x10 : vals 10 = .slice (some ⟨b3, o3, none⟩) n3 cap3 := hV 10 _ _ rfl rfl
          have x11 : vals 11 = .int .i64 (j : Int) := hV 11 _ _ rfl rfl
          have x12 : vals 12 = .pointer (some ⟨b3, o3 + j * 1, none⟩) := hV 12 _ _ rfl rfl
          have x13 : vals 13 = B r := hV 13 _ _ rfl rfl
          have x14 : vals 14 = B (p ^^^ q ^^^ r) := hV 14 _ _ rfl rfl
          have x15 : vals 15 = .slice (some ⟨W0.heap.size, 0, none⟩) 1 1 := hV 15 _ _ rfl rfl
          simp only [putAll, Act.put, List.setIfInBounds_toArray, List.set_cons_succ, List.set_cons_zero, x0, x1, x2, x3, x4, x5, x6, x7, x8, x9, x10, x11, x12, x13, x14, x15, hvn, x17]
          have HN : RowKit.Hid (w'.ownsRow w.heap.size 5 1 vn (j + 1) ((xorTo x y z (j + 1)).map B) ∧ Agrees All w w') := by
            refine ⟨?_, hW2⟩
            rw [HS.out, List.map_append]
            exact hW1
          clear hV hW x0 x1 x2 x3 x4 x5 x6 x7 x8 x9 x10 x11 x12 x13 x14 x15 x17 hW1 hW2 hc1 hc2 hc3 hc1' hc2' hc3' hown hag0 hW0 HC1 HC2 HC3 hvn hi0 hz0 hz1 hz2
          go_wp2_with fail
          exact ⟨⟨j + 1, _, by omega, by simp, rfl, HN⟩, by simp [intOf]; omega⟩

      · have hjn : n2 = j := by omega
        subst hjn
        have hcap1 := HX.out.cap
        have hcap2 := HY.out.cap
        have hcap3 := HZ.out.cap
        have hbv0 := own_bytes HJ.out.1
        obtain ⟨av, nv, cv, rfl, _⟩ := id hbv0
        have HB1 := Lib.hid (BytesAt.slice (HX.out.agrees HJ.out.2.drew fun _ h => h) 0 n2 (by omega) (by omega))
        have HB2 := Lib.hid (BytesAt.slice (HY.out.agrees HJ.out.2.drew fun _ h => h) 0 n2 (by omega) (by omega))
        have HB3 := Lib.hid (BytesAt.slice (HZ.out.agrees HJ.out.2.drew fun _ h => h) 0 n2 (by omega) (by omega))
        have HBV := Lib.hid (BytesAt.agrees hbv0 (Agrees.refl All wr).drew fun _ h => h)
        have HSUM := Lib.hid (sum_xorTo x y z n2 (by rw [HX.out.len]; omega) (by rw [HY.out.len]; omega) (by rw [HZ.out.len]; omega))
        clear hbv0
        go_wp2_with fail
        have hb1 := HB1.out
        have hb2 := HB2.out
        have hb3 := HB3.out
        have hbv := HBV.out
        have hsum : (sum (xorTo x y z n2) == sum ((x.drop 0).take (n2 - 0)) ^^^ sum ((y.drop 0).take (n2 - 0)) ^^^ sum ((z.drop 0).take (n2 - 0))) = true := by
          simp only [List.drop_zero, Nat.sub_zero]; rw [HSUM.out]; simp
        obtain ⟨W0, hW0⟩ : ∃ W0, wr.drew = W0 := ⟨_, rfl⟩
        rw [hW0] at hb1 hb2 hb3 hbv
        generalize hsq : sum (xorTo x y z n2) = s at *
        have hE1 : sum ((x.drop 0).take (n2 - 0)) = sum ((x.drop 0).take (n2 - 0)) := rfl
        generalize hs1q : sum ((x.drop 0).take (n2 - 0)) = s1 at *
        generalize hs2q : sum ((y.drop 0).take (n2 - 0)) = s2 at *
        generalize hs3q : sum ((z.drop 0).take (n2 - 0)) = s3 at *
        clear hE1
        have HA := Lib.hid (show Agrees All w W0 by rw [← hW0]; exact HJ.out.2.drew)
        refine wp_region_plan (by kernel_rfl) ?hok2 (by kernel_rfl) (vSums a1 a2 a3 av n1 cap1 n2 cap2 n3 cap3 nv cv n2 s s1 s2 s3) (wiSums W0 (.slice av nv cv) (.slice (slA a1 0 cap1) (n2 - 0) (cap1 - 0)) (.slice (slA a2 0 cap2) (n2 - 0) (cap2 - 0)) (.slice (slA a3 0 cap3) (n2 - 0) (cap3 - 0))) ?h02 (fun i hi => ?steps2) ?hend2
        case hok2 => kernel_rfl
        case h02 => exact fun vals => ⟨by rw [← hW0]; exact Agrees.refl _ _, fun h => (by cases h), fun h => (by cases h), fun h => (by cases h), fun h => (by cases h)⟩
        case steps2 =>
          have hi' : i < 25 := hi
          match i, hi' with
          | 0, _ =>
            refine steps_of rfl ?_
            intro L aq wq hL hd st wi
            have o8 := st.outside (t := 8) rfl (v := .slice av nv cv) rfl
            exact opTo_val (v := .slice av nv cv) rfl (ex_move (.inl rfl) (eval_tmp o8)) ⟨(fun h => by cases h), rfl, wi⟩
          | 1, _ =>
            refine steps_of rfl ?_
            intro L aq wq hL hd st wi
            obtain ⟨u0, e0, V0⟩ := st.val 0 _ _ rfl rfl (hd ⟨0, .data⟩ (by simp) rfl)
            obtain rfl : .slice av nv cv = u0 := V0.symm
            obtain ⟨ag, r1, r2, r3, r4⟩ := wi
            exact opTo_val (v := .slice (some ⟨wq.heap.size, 0, none⟩) 1 1) (w' := wq.alloc (.cells #[.slice av nv cv] 22)) rfl (by simp [go_sem, Act.eval, e0]) ⟨(fun h => by cases h), trivial, ag.alloc _, fun _ => ⟨_, rfl, World.alloc_heap_new wq _⟩, fun h => (r2 h).agrees ((Agrees.refl _ wq).alloc _), fun h => (r3 h).agrees ((Agrees.refl _ wq).alloc _), fun h => (r4 h).agrees ((Agrees.refl _ wq).alloc _)⟩
          | 2, _ =>
            refine steps_of rfl ?_
            intro L aq wq hL hd st wi
            obtain ⟨u1, e1, V1⟩ := st.val 1 _ _ rfl rfl (hd ⟨1, .data⟩ (by simp) rfl)
            have hr := wi.2.1 (hd ⟨1, .data⟩ (by simp) rfl)
            rw [slotV_val rfl rfl e1] at hr
            obtain ⟨b, rfl, hb⟩ := hr
            refine opTo_call (w' := wq) (f := 13) (args := #[.slice (some ⟨b, 0, none⟩) 1 1]) rfl (by simp [go_sem, Act.eval, e1]) ((sum_row wq b _ _ _ _ _ hb (hbv.agrees wi.1 fun _ h => h)).mono ?_)
            rintro e w' ⟨rfl, hag⟩
            exact ⟨U (s), by rw [hsq], (fun h => by cases h), rfl, wiSums_mono wi hag⟩
          | 3, _ =>
            refine steps_of rfl ?_
            intro L aq wq hL hd st wi
            have o0 := st.outside (t := 0) rfl (v := .slice a1 n1 cap1) rfl
            exact opTo_val (v := .slice a1 n1 cap1) rfl (ex_move (.inl rfl) (eval_tmp o0)) ⟨(fun h => by cases h), rfl, wi⟩
          | 4, _ =>
            refine steps_of rfl ?_
            intro L aq wq hL hd st wi
            have o7 := st.outside (t := 7) rfl (v := .int .i64 (n2 : Int)) rfl
            exact opTo_val (v := .int .i64 (n2 : Int)) rfl (ex_move (.inl rfl) (eval_tmp o7)) ⟨(fun h => by cases h), rfl, wi⟩
          | 5, _ =>
            refine steps_of rfl ?_
            intro L aq wq hL hd st wi
            obtain ⟨u3, e3, V3⟩ := st.val 3 _ _ rfl rfl (hd ⟨3, .data⟩ (by simp) rfl)
            obtain rfl : .slice a1 n1 cap1 = u3 := V3.symm
            obtain ⟨u4, e4, V4⟩ := st.val 4 _ _ rfl rfl (hd ⟨4, .data⟩ (by simp) rfl)
            obtain rfl : .int .i64 (n2 : Int) = u4 := V4.symm
            exact opTo_val (v := .slice (slA a1 0 cap1) (n2 - 0) (cap1 - 0)) rfl (ex_slice rfl Try.underlying22 (by kernel_rfl) a1 n1 cap1 0 n2 (eval_tmp e3) (.inr ⟨rfl, rfl⟩) (.inl (by simp [Act.eval, e4])) (by omega) (by omega)) ⟨(fun h => by cases h), rfl, wi⟩
          | 6, _ =>
            refine steps_of rfl ?_
            intro L aq wq hL hd st wi
            obtain ⟨u5, e5, V5⟩ := st.val 5 _ _ rfl rfl (hd ⟨5, .data⟩ (by simp) rfl)
            obtain rfl : .slice (slA a1 0 cap1) (n2 - 0) (cap1 - 0) = u5 := V5.symm
            obtain ⟨ag, r1, r2, r3, r4⟩ := wi
            exact opTo_val (v := .slice (some ⟨wq.heap.size, 0, none⟩) 1 1) (w' := wq.alloc (.cells #[.slice (slA a1 0 cap1) (n2 - 0) (cap1 - 0)] 22)) rfl (by simp [go_sem, Act.eval, e5]) ⟨(fun h => by cases h), trivial, ag.alloc _, fun h => (r1 h).agrees ((Agrees.refl _ wq).alloc _), fun _ => ⟨_, rfl, World.alloc_heap_new wq _⟩, fun h => (r3 h).agrees ((Agrees.refl _ wq).alloc _), fun h => (r4 h).agrees ((Agrees.refl _ wq).alloc _)⟩
          | 7, _ =>
            refine steps_of rfl ?_
            intro L aq wq hL hd st wi
            obtain ⟨u6, e6, V6⟩ := st.val 6 _ _ rfl rfl (hd ⟨6, .data⟩ (by simp) rfl)
            have hr := wi.2.2.1 (hd ⟨6, .data⟩ (by simp) rfl)
            rw [slotV_val rfl rfl e6] at hr
            obtain ⟨b, rfl, hb⟩ := hr
            refine opTo_call (w' := wq) (f := 13) (args := #[.slice (some ⟨b, 0, none⟩) 1 1]) rfl (by simp [go_sem, Act.eval, e6]) ((sum_row wq b _ _ _ _ _ hb (hb1.agrees wi.1 fun _ h => h)).mono ?_)
            rintro e w' ⟨rfl, hag⟩
            exact ⟨U (s1), by rw [hs1q], (fun h => by cases h), rfl, wiSums_mono wi hag⟩
          | 8, _ =>
            refine steps_of rfl ?_
            intro L aq wq hL hd st wi
            have o1 := st.outside (t := 1) rfl (v := .slice a2 n2 cap2) rfl
            exact opTo_val (v := .slice a2 n2 cap2) rfl (ex_move (.inl rfl) (eval_tmp o1)) ⟨(fun h => by cases h), rfl, wi⟩
          | 9, _ =>
            refine steps_of rfl ?_
            intro L aq wq hL hd st wi
            have o7 := st.outside (t := 7) rfl (v := .int .i64 (n2 : Int)) rfl
            exact opTo_val (v := .int .i64 (n2 : Int)) rfl (ex_move (.inl rfl) (eval_tmp o7)) ⟨(fun h => by cases h), rfl, wi⟩
          | 10, _ =>
            refine steps_of rfl ?_
            intro L aq wq hL hd st wi
            obtain ⟨u8, e8, V8⟩ := st.val 8 _ _ rfl rfl (hd ⟨8, .data⟩ (by simp) rfl)
            obtain rfl : .slice a2 n2 cap2 = u8 := V8.symm
            obtain ⟨u9, e9, V9⟩ := st.val 9 _ _ rfl rfl (hd ⟨9, .data⟩ (by simp) rfl)
            obtain rfl : .int .i64 (n2 : Int) = u9 := V9.symm
            exact opTo_val (v := .slice (slA a2 0 cap2) (n2 - 0) (cap2 - 0)) rfl (ex_slice rfl Try.underlying22 (by kernel_rfl) a2 n2 cap2 0 n2 (eval_tmp e8) (.inr ⟨rfl, rfl⟩) (.inl (by simp [Act.eval, e9])) (by omega) (by omega)) ⟨(fun h => by cases h), rfl, wi⟩
          | 11, _ =>
            refine steps_of rfl ?_
            intro L aq wq hL hd st wi
            obtain ⟨u10, e10, V10⟩ := st.val 10 _ _ rfl rfl (hd ⟨10, .data⟩ (by simp) rfl)
            obtain rfl : .slice (slA a2 0 cap2) (n2 - 0) (cap2 - 0) = u10 := V10.symm
            obtain ⟨ag, r1, r2, r3, r4⟩ := wi
            exact opTo_val (v := .slice (some ⟨wq.heap.size, 0, none⟩) 1 1) (w' := wq.alloc (.cells #[.slice (slA a2 0 cap2) (n2 - 0) (cap2 - 0)] 22)) rfl (by simp [go_sem, Act.eval, e10]) ⟨(fun h => by cases h), trivial, ag.alloc _, fun h => (r1 h).agrees ((Agrees.refl _ wq).alloc _), fun h => (r2 h).agrees ((Agrees.refl _ wq).alloc _), fun _ => ⟨_, rfl, World.alloc_heap_new wq _⟩, fun h => (r4 h).agrees ((Agrees.refl _ wq).alloc _)⟩
          | 12, _ =>
            refine steps_of rfl ?_
            intro L aq wq hL hd st wi
            obtain ⟨u11, e11, V11⟩ := st.val 11 _ _ rfl rfl (hd ⟨11, .data⟩ (by simp) rfl)
            have hr := wi.2.2.2.1 (hd ⟨11, .data⟩ (by simp) rfl)
            rw [slotV_val rfl rfl e11] at hr
            obtain ⟨b, rfl, hb⟩ := hr
            refine opTo_call (w' := wq) (f := 13) (args := #[.slice (some ⟨b, 0, none⟩) 1 1]) rfl (by simp [go_sem, Act.eval, e11]) ((sum_row wq b _ _ _ _ _ hb (hb2.agrees wi.1 fun _ h => h)).mono ?_)
            rintro e w' ⟨rfl, hag⟩
            exact ⟨U (s2), by rw [hs2q], (fun h => by cases h), rfl, wiSums_mono wi hag⟩
          | 13, _ =>
            refine steps_of rfl ?_
            intro L aq wq hL hd st wi
            obtain ⟨u7, e7, V7⟩ := st.val 7 _ _ rfl rfl (hd ⟨7, .data⟩ (by simp) rfl)
            obtain rfl : U (s1) = u7 := V7.symm
            obtain ⟨u12, e12, V12⟩ := st.val 12 _ _ rfl rfl (hd ⟨12, .data⟩ (by simp) rfl)
            obtain rfl : U (s2) = u12 := V12.symm
            exact opTo_val (v := U (s1 ^^^ s2)) rfl (by simp [go_sem, Act.eval, e7, e12]) ⟨(fun h => by cases h), rfl, wi⟩
          | 14, _ =>
            refine steps_of rfl ?_
            intro L aq wq hL hd st wi
            have o2 := st.outside (t := 2) rfl (v := .slice a3 n3 cap3) rfl
            exact opTo_val (v := .slice a3 n3 cap3) rfl (ex_move (.inl rfl) (eval_tmp o2)) ⟨(fun h => by cases h), rfl, wi⟩
          | 15, _ =>
            refine steps_of rfl ?_
            intro L aq wq hL hd st wi
            have o7 := st.outside (t := 7) rfl (v := .int .i64 (n2 : Int)) rfl
            exact opTo_val (v := .int .i64 (n2 : Int)) rfl (ex_move (.inl rfl) (eval_tmp o7)) ⟨(fun h => by cases h), rfl, wi⟩
          | 16, _ =>
            refine steps_of rfl ?_
            intro L aq wq hL hd st wi
            obtain ⟨u14, e14, V14⟩ := st.val 14 _ _ rfl rfl (hd ⟨14, .data⟩ (by simp) rfl)
            obtain rfl : .slice a3 n3 cap3 = u14 := V14.symm
            obtain ⟨u15, e15, V15⟩ := st.val 15 _ _ rfl rfl (hd ⟨15, .data⟩ (by simp) rfl)
            obtain rfl : .int .i64 (n2 : Int) = u15 := V15.symm
            exact opTo_val (v := .slice (slA a3 0 cap3) (n2 - 0) (cap3 - 0)) rfl (ex_slice rfl Try.underlying22 (by kernel_rfl) a3 n3 cap3 0 n2 (eval_tmp e14) (.inr ⟨rfl, rfl⟩) (.inl (by simp [Act.eval, e15])) (by omega) (by omega)) ⟨(fun h => by cases h), rfl, wi⟩
          | 17, _ =>
            refine steps_of rfl ?_
            intro L aq wq hL hd st wi
            obtain ⟨u16, e16, V16⟩ := st.val 16 _ _ rfl rfl (hd ⟨16, .data⟩ (by simp) rfl)
            obtain rfl : .slice (slA a3 0 cap3) (n2 - 0) (cap3 - 0) = u16 := V16.symm
            obtain ⟨ag, r1, r2, r3, r4⟩ := wi
            exact opTo_val (v := .slice (some ⟨wq.heap.size, 0, none⟩) 1 1) (w' := wq.alloc (.cells #[.slice (slA a3 0 cap3) (n2 - 0) (cap3 - 0)] 22)) rfl (by simp [go_sem, Act.eval, e16]) ⟨(fun h => by cases h), trivial, ag.alloc _, fun h => (r1 h).agrees ((Agrees.refl _ wq).alloc _), fun h => (r2 h).agrees ((Agrees.refl _ wq).alloc _), fun h => (r3 h).agrees ((Agrees.refl _ wq).alloc _), fun _ => ⟨_, rfl, World.alloc_heap_new wq _⟩⟩
          | 18, _ =>
            refine steps_of rfl ?_
            intro L aq wq hL hd st wi
            obtain ⟨u17, e17, V17⟩ := st.val 17 _ _ rfl rfl (hd ⟨17, .data⟩ (by simp) rfl)
            have hr := wi.2.2.2.2 (hd ⟨17, .data⟩ (by simp) rfl)
            rw [slotV_val rfl rfl e17] at hr
            obtain ⟨b, rfl, hb⟩ := hr
            refine opTo_call (w' := wq) (f := 13) (args := #[.slice (some ⟨b, 0, none⟩) 1 1]) rfl (by simp [go_sem, Act.eval, e17]) ((sum_row wq b _ _ _ _ _ hb (hb3.agrees wi.1 fun _ h => h)).mono ?_)
            rintro e w' ⟨rfl, hag⟩
            exact ⟨U (s3), by rw [hs3q], (fun h => by cases h), rfl, wiSums_mono wi hag⟩
          | 19, _ =>
            refine steps_of rfl ?_
            intro L aq wq hL hd st wi
            obtain ⟨u13, e13, V13⟩ := st.val 13 _ _ rfl rfl (hd ⟨13, .data⟩ (by simp) rfl)
            obtain rfl : U (s1 ^^^ s2) = u13 := V13.symm
            obtain ⟨u18, e18, V18⟩ := st.val 18 _ _ rfl rfl (hd ⟨18, .data⟩ (by simp) rfl)
            obtain rfl : U (s3) = u18 := V18.symm
            exact opTo_val (v := U (s1 ^^^ s2 ^^^ s3)) rfl (by simp [go_sem, Act.eval, e13, e18]) ⟨(fun h => by cases h), rfl, wi⟩
          | 20, _ =>
            refine steps_of rfl ?_
            intro L aq wq hL hd st wi
            obtain ⟨u2, e2, V2⟩ := st.val 2 _ _ rfl rfl (hd ⟨2, .data⟩ (by simp) rfl)
            obtain rfl : U (s) = u2 := V2.symm
            obtain ⟨u19, e19, V19⟩ := st.val 19 _ _ rfl rfl (hd ⟨19, .data⟩ (by simp) rfl)
            obtain rfl : U (s1 ^^^ s2 ^^^ s3) = u19 := V19.symm
            exact opTo_val (v := .bool true) rfl (by simp [go_sem, Act.eval, e2, e19, hsum]) ⟨(fun h => by cases h), rfl, wi⟩
          | 21, _ =>
            refine steps_of rfl ?_
            intro L aq wq hL hd st wi
            obtain ⟨u20, e20, V20⟩ := st.val 20 _ _ rfl rfl (hd ⟨20, .data⟩ (by simp) rfl)
            obtain rfl : .bool true = u20 := V20.symm
            exact opTo_val (v := .bool true) rfl (ex_move (.inl rfl) (eval_tmp e20)) ⟨(fun h => by cases h), rfl, wi⟩
          | 22, _ =>
            refine steps_of rfl ?_
            intro L aq wq hL hd st wi
            obtain ⟨u21, e21, V21⟩ := st.val 21 _ _ rfl rfl (hd ⟨21, .chain⟩ (by simp) rfl)
            obtain rfl : .bool true = u21 := V21.symm
            refine opTo_call (w' := wq) (f := 12) (args := #[]) (by simp [Region.wanted, yielded, e21]) (by simp [go_sem, Act.eval]) ((wakes01_calls wq).mono ?_)
            rintro e w' ⟨rfl, hag⟩
            exact ⟨_, rfl, (fun h => by cases h), rfl, wiSums_mono wi hag⟩
          | 23, _ =>
            refine steps_of rfl ?_
            intro L aq wq hL hd st wi
            obtain ⟨u21, e21, V21⟩ := st.val 21 _ _ rfl rfl (hd ⟨21, .data⟩ (by simp) rfl)
            obtain rfl : .bool true = u21 := V21.symm
            obtain ⟨u22, e22, V22⟩ := st.val 22 _ _ rfl rfl (hd ⟨22, .data⟩ (by simp) rfl)
            obtain rfl : .bool true = u22 := V22.symm
            exact opTo_val (v := .bool true) rfl (by simp [go_sem, Act.eval, e21, e22]) ⟨(fun h => by cases h), rfl, wi⟩
          | 24, _ =>
            refine steps_of rfl ?_
            intro L aq wq hL hd st wi
            obtain ⟨u23, e23, V23⟩ := st.val 23 _ _ rfl rfl (hd ⟨23, .data⟩ (by simp) rfl)
            obtain rfl : .bool true = u23 := V23.symm
            exact opTo_val (v := .bool true) rfl (ex_move (.inr rfl) (eval_tmp e23)) ⟨(fun h => by cases h), rfl, wi⟩
          | (i + 25), h => omega
        case hend2 =>
          intro vals w' hV hW
          have hF := Lib.hid (HA.out.trans hW.1)
          have x24 : vals 24 = .bool true := hV 24 _ _ rfl rfl
          simp only [putAll, Act.put, List.setIfInBounds_toArray, List.set_cons_succ, List.set_cons_zero, x24]
          clear hV hW hsq hs1q hs2q hs3q
          go_wp2_with fail
          go_ret
          exact ⟨rfl, hF.out⟩
  · have hle : (n1 ≤ n1 ∧ n1 ≤ n2 ∧ n1 ≤ n3) ∧ n1 ≤ 1000 := by omega
    have HX := Lib.hid hx
    have HY := Lib.hid hy
    have HZ := Lib.hid hz
    clear hx hy hz
    go_loopw [8, 9] (fun c ii wr => ∃ (j : Nat) (v : Value), j ≤ n1 ∧ ii = .int .i64 j ∧ v = c ∧ RowKit.Hid (wr.ownsRow w.heap.size 5 1 v j ((xorTo x y z j).map B) ∧ Agrees All w wr)) (fun _ ii _ => n1 - (intOf ii).toNat)
    case atStart => exact ⟨0, _, by omega, rfl, rfl, World.ownsRow_nil _ _ _ _, Agrees.refl _ _⟩
    case round =>
      obtain ⟨j, v, hj, rfl, rfl, HJ⟩ := hrel
      by_cases hlt : j < n1
      · obtain ⟨b1, o1, rfl, _, hs1, hc1⟩ := HX.out.at.2.2 j (by omega)
        obtain ⟨b2, o2, rfl, _, hs2, hc2⟩ := HY.out.at.2.2 j (by omega)
        obtain ⟨b3, o3, rfl, _, hs3, hc3⟩ := HZ.out.at.2.2 j (by omega)
        have HS := Lib.hid (xorTo_succ x y z j (by rw [HX.out.len]; omega) (by rw [HY.out.len]; omega) (by rw [HZ.out.len]; omega))
        have HC1 := Lib.hid ((HJ.out.2.cell (p := ⟨b1, o1 + j, none⟩) hs1 trivial).trans hc1)
        have HC2 := Lib.hid ((HJ.out.2.cell (p := ⟨b2, o2 + j, none⟩) hs2 trivial).trans hc2)
        have HC3 := Lib.hid ((HJ.out.2.cell (p := ⟨b3, o3 + j, none⟩) hs3 trivial).trans hc3)
        clear hc1 hc2 hc3
        generalize x.getD j 0 = p at *
        generalize y.getD j 0 = q at *
        generalize z.getD j 0 = r at *
        go_wp2_with fail
        have hc1 := HC1.out
        have hc2 := HC2.out
        have hc3 := HC3.out
        have hown : wr.drew.ownsRow w.heap.size 5 1 v j ((xorTo x y z j).map B) := HJ.out.1
        have hag0 := HJ.out.2.drew
        have hsz0 := HJ.out.2.size
        obtain ⟨i0, hi0, hz0, hz1, hz2⟩ := info_parts infoU8
        obtain ⟨W0, hW0⟩ : ∃ W0, wr.drew = W0 := ⟨_, rfl⟩
        have hc1' : W0.cell? ⟨b1, o1 + j * 1, none⟩ = some (B p) := by rw [← hW0, Nat.mul_one]; exact hc1
        have hc2' : W0.cell? ⟨b2, o2 + j * 1, none⟩ = some (B q) := by rw [← hW0, Nat.mul_one]; exact hc2
        have hc3' : W0.cell? ⟨b3, o3 + j * 1, none⟩ = some (B r) := by rw [← hW0, Nat.mul_one]; exact hc3
        have hszW : w.heap.size ≤ W0.heap.size := by rw [← hW0]; exact hsz0
        rw [hW0] at hown hag0
        refine wp_region_plan (by kernel_rfl) ?hok (by kernel_rfl) (vThree W0 v b1 o1 n1 cap1 b2 o2 n2 cap2 b3 o3 n3 cap3 j p q r) (wiThree w W0 w.heap.size j ((xorTo x y z j).map B) (p ^^^ q ^^^ r)) ?h0 (fun i hi => ?steps) ?hend
        case hok => kernel_rfl
        case h0 => exact fun vals => ⟨fun _ => ⟨rfl, hW0.symm⟩, fun h => (by cases h), fun h => (by cases h), fun h => (by cases h)⟩
        case steps =>
          generalize hxs : (xorTo x y z j).map B = xs at *
          generalize hba : w.heap.size = base at *
          have hc1 := hc1'
          have hc2 := hc2'
          have hc3 := hc3'
          have hi' : i < 18 := hi
          match i, hi' with
          | 0, _ =>
            refine steps_of rfl ?_
            intro L aq wq hL hd st wi
            have o8 := st.before (by kernel_rfl) hL (k := 17) rfl rfl (e := ⟨0, .phase⟩) (by simp) rfl rfl (v := v) rfl
            exact opTo_val (v := v) rfl (ex_move (.inl rfl) (eval_tmp o8)) ⟨(fun h => by cases h), rfl, wi⟩
          | 1, _ =>
            refine steps_of rfl ?_
            intro L aq wq hL hd st wi
            have o0 := st.outside (t := 0) rfl (v := .slice (some ⟨b1, o1, none⟩) n1 cap1) rfl
            exact opTo_val (v := .slice (some ⟨b1, o1, none⟩) n1 cap1) rfl (ex_move (.inl rfl) (eval_tmp o0)) ⟨(fun h => by cases h), rfl, wi⟩
          | 2, _ =>
            refine steps_of rfl ?_
            intro L aq wq hL hd st wi
            have o9 := st.outside (t := 9) rfl (v := .int .i64 (j : Int)) rfl
            exact opTo_val (v := .int .i64 (j : Int)) rfl (ex_move (.inl rfl) (eval_tmp o9)) ⟨(fun h => by cases h), rfl, wi⟩
          | 3, _ =>
            refine steps_of rfl ?_
            intro L aq wq hL hd st wi
            obtain ⟨u1, e1, V1⟩ := st.val 1 _ _ rfl rfl (hd ⟨1, .data⟩ (by simp) rfl)
            obtain rfl : .slice (some ⟨b1, o1, none⟩) n1 cap1 = u1 := V1.symm
            obtain ⟨u2, e2, V2⟩ := st.val 2 _ _ rfl rfl (hd ⟨2, .data⟩ (by simp) rfl)
            obtain rfl : .int .i64 (j : Int) = u2 := V2.symm
            exact opTo_val (v := .pointer (some ⟨b1, o1 + j * 1, none⟩)) rfl (ex_idx rfl Try.underlying22 (by kernel_rfl) b1 o1 n1 cap1 j (eval_tmp e1) (eval_tmp e2) (by omega)) ⟨(fun h => by cases h), rfl, wi⟩
          | 4, _ =>
            refine steps_of rfl ?_
            intro L aq wq hL hd st wi
            obtain ⟨u3, e3, V3⟩ := st.val 3 _ _ rfl rfl (hd ⟨3, .data⟩ (by simp) rfl)
            obtain rfl : .pointer (some ⟨b1, o1 + j * 1, none⟩) = u3 := V3.symm
            have h15 : L 15 = false := by
              cases h : L 15
              · rfl
              · have h14 := st.closed 15 _ rfl h ⟨14, .data⟩ (by simp) rfl
                have h9 := st.closed 14 _ rfl h14 ⟨9, .data⟩ (by simp) rfl
                have h4 := st.closed 9 _ rfl h9 ⟨4, .data⟩ (by simp) rfl
                rw [hL] at h4; cases h4
            refine opTo_val (v := B p) rfl (ex_load1 rfl oneU8 (eval_tmp e3) ?_) ⟨(fun h => by cases h), rfl, wi⟩
            rw [← (wi.1 h15).2]; exact hc1
          | 5, _ =>
            refine steps_of rfl ?_
            intro L aq wq hL hd st wi
            have o1 := st.outside (t := 1) rfl (v := .slice (some ⟨b2, o2, none⟩) n2 cap2) rfl
            exact opTo_val (v := .slice (some ⟨b2, o2, none⟩) n2 cap2) rfl (ex_move (.inl rfl) (eval_tmp o1)) ⟨(fun h => by cases h), rfl, wi⟩
          | 6, _ =>
            refine steps_of rfl ?_
            intro L aq wq hL hd st wi
            have o9 := st.outside (t := 9) rfl (v := .int .i64 (j : Int)) rfl
            exact opTo_val (v := .int .i64 (j : Int)) rfl (ex_move (.inl rfl) (eval_tmp o9)) ⟨(fun h => by cases h), rfl, wi⟩
          | 7, _ =>
            refine steps_of rfl ?_
            intro L aq wq hL hd st wi
            obtain ⟨u5, e5, V5⟩ := st.val 5 _ _ rfl rfl (hd ⟨5, .data⟩ (by simp) rfl)
            obtain rfl : .slice (some ⟨b2, o2, none⟩) n2 cap2 = u5 := V5.symm
            obtain ⟨u6, e6, V6⟩ := st.val 6 _ _ rfl rfl (hd ⟨6, .data⟩ (by simp) rfl)
            obtain rfl : .int .i64 (j : Int) = u6 := V6.symm
            exact opTo_val (v := .pointer (some ⟨b2, o2 + j * 1, none⟩)) rfl (ex_idx rfl Try.underlying22 (by kernel_rfl) b2 o2 n2 cap2 j (eval_tmp e5) (eval_tmp e6) (by omega)) ⟨(fun h => by cases h), rfl, wi⟩
          | 8, _ =>
            refine steps_of rfl ?_
            intro L aq wq hL hd st wi
            obtain ⟨u7, e7, V7⟩ := st.val 7 _ _ rfl rfl (hd ⟨7, .data⟩ (by simp) rfl)
            obtain rfl : .pointer (some ⟨b2, o2 + j * 1, none⟩) = u7 := V7.symm
            have h15 : L 15 = false := by
              cases h : L 15
              · rfl
              · have h14 := st.closed 15 _ rfl h ⟨14, .data⟩ (by simp) rfl
                have h9 := st.closed 14 _ rfl h14 ⟨9, .data⟩ (by simp) rfl
                have h8 := st.closed 9 _ rfl h9 ⟨8, .data⟩ (by simp) rfl
                rw [hL] at h8; cases h8
            refine opTo_val (v := B q) rfl (ex_load1 rfl oneU8 (eval_tmp e7) ?_) ⟨(fun h => by cases h), rfl, wi⟩
            rw [← (wi.1 h15).2]; exact hc2
          | 9, _ =>
            refine steps_of rfl ?_
            intro L aq wq hL hd st wi
            obtain ⟨u4, e4, V4⟩ := st.val 4 _ _ rfl rfl (hd ⟨4, .data⟩ (by simp) rfl)
            obtain rfl : B p = u4 := V4.symm
            obtain ⟨u8, e8, V8⟩ := st.val 8 _ _ rfl rfl (hd ⟨8, .data⟩ (by simp) rfl)
            obtain rfl : B q = u8 := V8.symm
            exact opTo_val (v := B (p ^^^ q)) rfl (by simp [go_sem, Act.eval, e4, e8]) ⟨(fun h => by cases h), rfl, wi⟩
          | 10, _ =>
            refine steps_of rfl ?_
            intro L aq wq hL hd st wi
            have o2 := st.outside (t := 2) rfl (v := .slice (some ⟨b3, o3, none⟩) n3 cap3) rfl
            exact opTo_val (v := .slice (some ⟨b3, o3, none⟩) n3 cap3) rfl (ex_move (.inl rfl) (eval_tmp o2)) ⟨(fun h => by cases h), rfl, wi⟩
          | 11, _ =>
            refine steps_of rfl ?_
            intro L aq wq hL hd st wi
            have o9 := st.outside (t := 9) rfl (v := .int .i64 (j : Int)) rfl
            exact opTo_val (v := .int .i64 (j : Int)) rfl (ex_move (.inl rfl) (eval_tmp o9)) ⟨(fun h => by cases h), rfl, wi⟩
          | 12, _ =>
            refine steps_of rfl ?_
            intro L aq wq hL hd st wi
            obtain ⟨u10, e10, V10⟩ := st.val 10 _ _ rfl rfl (hd ⟨10, .data⟩ (by simp) rfl)
            obtain rfl : .slice (some ⟨b3, o3, none⟩) n3 cap3 = u10 := V10.symm
            obtain ⟨u11, e11, V11⟩ := st.val 11 _ _ rfl rfl (hd ⟨11, .data⟩ (by simp) rfl)
            obtain rfl : .int .i64 (j : Int) = u11 := V11.symm
            exact opTo_val (v := .pointer (some ⟨b3, o3 + j * 1, none⟩)) rfl (ex_idx rfl Try.underlying22 (by kernel_rfl) b3 o3 n3 cap3 j (eval_tmp e10) (eval_tmp e11) (by omega)) ⟨(fun h => by cases h), rfl, wi⟩
          | 13, _ =>
            refine steps_of rfl ?_
            intro L aq wq hL hd st wi
            obtain ⟨u12, e12, V12⟩ := st.val 12 _ _ rfl rfl (hd ⟨12, .data⟩ (by simp) rfl)
            obtain rfl : .pointer (some ⟨b3, o3 + j * 1, none⟩) = u12 := V12.symm
            have h15 : L 15 = false := by
              cases h : L 15
              · rfl
              · have h14 := st.closed 15 _ rfl h ⟨14, .data⟩ (by simp) rfl
                have h13 := st.closed 14 _ rfl h14 ⟨13, .data⟩ (by simp) rfl
                rw [hL] at h13; cases h13
            refine opTo_val (v := B r) rfl (ex_load1 rfl oneU8 (eval_tmp e12) ?_) ⟨(fun h => by cases h), rfl, wi⟩
            rw [← (wi.1 h15).2]; exact hc3
          | 14, _ =>
            refine steps_of rfl ?_
            intro L aq wq hL hd st wi
            obtain ⟨u9, e9, V9⟩ := st.val 9 _ _ rfl rfl (hd ⟨9, .data⟩ (by simp) rfl)
            obtain rfl : B (p ^^^ q) = u9 := V9.symm
            obtain ⟨u13, e13, V13⟩ := st.val 13 _ _ rfl rfl (hd ⟨13, .data⟩ (by simp) rfl)
            obtain rfl : B r = u13 := V13.symm
            exact opTo_val (v := B (p ^^^ q ^^^ r)) rfl (by simp [go_sem, Act.eval, e9, e13]) ⟨(fun h => by cases h), rfl, wi⟩
          | 15, _ =>
            refine steps_of rfl ?_
            intro L aq wq hL hd st wi
            obtain ⟨u14, e14, V14⟩ := st.val 14 _ _ rfl rfl (hd ⟨14, .data⟩ (by simp) rfl)
            obtain rfl : B (p ^^^ q ^^^ r) = u14 := V14.symm
            obtain ⟨w1, w2, w3, w4⟩ := wi
            obtain ⟨h16, rfl⟩ := w1 hL
            refine opTo_val (v := .slice (some ⟨W0.heap.size, 0, none⟩) 1 1) (w' := W0.alloc (.cells #[B (p ^^^ q ^^^ r)] 5)) rfl (by simp [go_sem, Act.eval, e14]) ⟨(fun h => by cases h), rfl, ?_, ?_, ?_, w4⟩
            · intro h; simp [setL] at h
            · intro _ _; rfl
            · intro h; simp [setL, h16] at h
          | 16, _ =>
            refine steps_of rfl ?_
            intro L aq wq hL hd st wi
            obtain ⟨u0, e0, V0⟩ := st.val 0 _ _ rfl rfl (hd ⟨0, .data⟩ (by simp) rfl)
            obtain rfl : v = u0 := V0.symm
            obtain ⟨u15, e15, V15⟩ := st.val 15 _ _ rfl rfl (hd ⟨15, .data⟩ (by simp) rfl)
            obtain rfl : .slice (some ⟨W0.heap.size, 0, none⟩) 1 1 = u15 := V15.symm
            obtain ⟨w1, w2, w3, w4⟩ := wi
            have h15 := hd ⟨15, .data⟩ (by simp) rfl
            obtain rfl := w2 h15 hL
            obtain ⟨v', w', hrun, r1, r2, _⟩ := run_append_own (P := Try.prog) (W0.alloc (.cells #[B (p ^^^ q ^^^ r)] 5)) base 22 22 5 i0 (.int .u8 0) 1 1 Try.underlying22 hi0 hz0 hz1 hz2 rfl (by decide)
              v j xs (hown.alloc _) ⟨W0.heap.size, 0, none⟩ 1 1 [B (p ^^^ q ^^^ r)] rfl (by intro j' u hu; rw [addr_add, cell_of_row _ _ _ _ _ _ (World.alloc_heap_new W0 _)]; rw [Nat.zero_add, List.getElem?_toArray]; exact hu) (by intro u hu; obtain rfl := List.mem_singleton.1 hu; rfl)
              (by simp only [maxLen]; omega) (by omega) (by simp; omega)
            refine opTo_val (v := v') (w' := w') rfl (by simp [execOp, resolve, invoke, builtin, Act.eval, e0, e15, hrun, Result.andThen]) ⟨(fun h => by cases h), trivial, ?_, ?_, ?_, ?_⟩
            · intro h; simp [setL, h15] at h
            · intro _ h; simp [setL] at h
            · intro _
              exact ⟨r1, (hag0.alloc _).grown r2 (fun k hk => by have := (World.ownsRow.lt hown k hk).1; omega)⟩
            · intro h
              have h16 := st.closed 17 _ rfl (show L 17 = true from h) ⟨16, .data⟩ (by simp) rfl
              rw [hL] at h16; cases h16
          | 17, _ =>
            refine steps_of rfl ?_
            intro L aq wq hL hd st wi
            obtain ⟨u16, e16, V16⟩ := st.val 16 _ _ rfl rfl (hd ⟨16, .data⟩ (by simp) rfl)
            obtain ⟨w1, w2, w3, w4⟩ := wi
            refine opTo_val (v := u16) rfl (ex_move (.inr rfl) (eval_tmp e16)) ⟨(fun h => by cases h), trivial, w1, w2, w3, fun _ => ?_⟩
            simp only [updV, if_true]
            rw [if_neg (by decide)]
            exact (slotV_val rfl rfl e16).symm
          | (i + 18), h => omega
        case hend =>
          intro vals w' hV hW
          obtain ⟨hW1, hW2⟩ := hW.2.2.1 rfl
          have x17 := hW.2.2.2 rfl
          generalize hvn : vals 16 = vn at *
          have x0 : vals 0 = v := hV 0 _ _ rfl rfl
          have x1 : vals 1 = .slice (some ⟨b1, o1, none⟩) n1 cap1 := hV 1 _ _ rfl rfl
          have x2 : vals 2 = .int .i64 (j : Int) := hV 2 _ _ rfl rfl
          have x3 : vals 3 = .pointer (some ⟨b1, o1 + j * 1, none⟩) := hV 3 _ _ rfl rfl
          have x4 : vals 4 = B p := hV 4 _ _ rfl rfl
          have x5 : vals 5 = .slice (some ⟨b2, o2, none⟩) n2 cap2 := hV 5 _ _ rfl rfl
          have x6 : vals 6 = .int .i64 (j : Int) := hV 6 _ _ rfl rfl
          have x7 : vals 7 = .pointer (some ⟨b2, o2 + j * 1, none⟩) := hV 7 _ _ rfl rfl
          have x8 : vals 8 = B q := hV 8 _ _ rfl rfl
          have x9 : vals 9 = B (p ^^^ q) := hV 9 _ _ rfl rfl
          have x10 : vals 10 = .slice (some ⟨b3, o3, none⟩) n3 cap3 := hV 10 _ _ rfl rfl
          have x11 : vals 11 = .int .i64 (j : Int) := hV 11 _ _ rfl rfl
          have x12 : vals 12 = .pointer (some ⟨b3, o3 + j * 1, none⟩) := hV 12 _ _ rfl rfl
          have x13 : vals 13 = B r := hV 13 _ _ rfl rfl
          have x14 : vals 14 = B (p ^^^ q ^^^ r) := hV 14 _ _ rfl rfl
          have x15 : vals 15 = .slice (some ⟨W0.heap.size, 0, none⟩) 1 1 := hV 15 _ _ rfl rfl
          simp only [putAll, Act.put, List.setIfInBounds_toArray, List.set_cons_succ, List.set_cons_zero, x0, x1, x2, x3, x4, x5, x6, x7, x8, x9, x10, x11, x12, x13, x14, x15, hvn, x17]
          have HN : RowKit.Hid (w'.ownsRow w.heap.size 5 1 vn (j + 1) ((xorTo x y z (j + 1)).map B) ∧ Agrees All w w') := by
            refine ⟨?_, hW2⟩
            rw [HS.out, List.map_append]
            exact hW1
          clear hV hW x0 x1 x2 x3 x4 x5 x6 x7 x8 x9 x10 x11 x12 x13 x14 x15 x17 hW1 hW2 hc1 hc2 hc3 hc1' hc2' hc3' hown hag0 hW0 HC1 HC2 HC3 hvn hi0 hz0 hz1 hz2
          go_wp2_with fail
          exact ⟨⟨j + 1, _, by omega, by simp, rfl, HN⟩, by simp [intOf]; omega⟩

      · have hjn : n1 = j := by omega
        subst hjn
        have hcap1 := HX.out.cap
        have hcap2 := HY.out.cap
        have hcap3 := HZ.out.cap
        have hbv0 := own_bytes HJ.out.1
        obtain ⟨av, nv, cv, rfl, _⟩ := id hbv0
        have HB1 := Lib.hid (BytesAt.slice (HX.out.agrees HJ.out.2.drew fun _ h => h) 0 n1 (by omega) (by omega))
        have HB2 := Lib.hid (BytesAt.slice (HY.out.agrees HJ.out.2.drew fun _ h => h) 0 n1 (by omega) (by omega))
        have HB3 := Lib.hid (BytesAt.slice (HZ.out.agrees HJ.out.2.drew fun _ h => h) 0 n1 (by omega) (by omega))
        have HBV := Lib.hid (BytesAt.agrees hbv0 (Agrees.refl All wr).drew fun _ h => h)
        have HSUM := Lib.hid (sum_xorTo x y z n1 (by rw [HX.out.len]; omega) (by rw [HY.out.len]; omega) (by rw [HZ.out.len]; omega))
        clear hbv0
        go_wp2_with fail
        have hb1 := HB1.out
        have hb2 := HB2.out
        have hb3 := HB3.out
        have hbv := HBV.out
        have hsum : (sum (xorTo x y z n1) == sum ((x.drop 0).take (n1 - 0)) ^^^ sum ((y.drop 0).take (n1 - 0)) ^^^ sum ((z.drop 0).take (n1 - 0))) = true := by
          simp only [List.drop_zero, Nat.sub_zero]; rw [HSUM.out]; simp
        obtain ⟨W0, hW0⟩ : ∃ W0, wr.drew = W0 := ⟨_, rfl⟩
        rw [hW0] at hb1 hb2 hb3 hbv
        generalize hsq : sum (xorTo x y z n1) = s at *
        have hE1 : sum ((x.drop 0).take (n1 - 0)) = sum ((x.drop 0).take (n1 - 0)) := rfl
        generalize hs1q : sum ((x.drop 0).take (n1 - 0)) = s1 at *
        generalize hs2q : sum ((y.drop 0).take (n1 - 0)) = s2 at *
        generalize hs3q : sum ((z.drop 0).take (n1 - 0)) = s3 at *
        clear hE1
        have HA := Lib.hid (show Agrees All w W0 by rw [← hW0]; exact HJ.out.2.drew)
        refine wp_region_plan (by kernel_rfl) ?hok2 (by kernel_rfl) (vSums a1 a2 a3 av n1 cap1 n2 cap2 n3 cap3 nv cv n1 s s1 s2 s3) (wiSums W0 (.slice av nv cv) (.slice (slA a1 0 cap1) (n1 - 0) (cap1 - 0)) (.slice (slA a2 0 cap2) (n1 - 0) (cap2 - 0)) (.slice (slA a3 0 cap3) (n1 - 0) (cap3 - 0))) ?h02 (fun i hi => ?steps2) ?hend2
        case hok2 => kernel_rfl
        case h02 => exact fun vals => ⟨by rw [← hW0]; exact Agrees.refl _ _, fun h => (by cases h), fun h => (by cases h), fun h => (by cases h), fun h => (by cases h)⟩
        case steps2 =>
          have hi' : i < 25 := hi
          match i, hi' with
          | 0, _ =>
            refine steps_of rfl ?_
            intro L aq wq hL hd st wi
            have o8 := st.outside (t := 8) rfl (v := .slice av nv cv) rfl
            exact opTo_val (v := .slice av nv cv) rfl (ex_move (.inl rfl) (eval_tmp o8)) ⟨(fun h => by cases h), rfl, wi⟩
          | 1, _ =>
            refine steps_of rfl ?_
            intro L aq wq hL hd st wi
            obtain ⟨u0, e0, V0⟩ := st.val 0 _ _ rfl rfl (hd ⟨0, .data⟩ (by simp) rfl)
            obtain rfl : .slice av nv cv = u0 := V0.symm
            obtain ⟨ag, r1, r2, r3, r4⟩ := wi
            exact opTo_val (v := .slice (some ⟨wq.heap.size, 0, none⟩) 1 1) (w' := wq.alloc (.cells #[.slice av nv cv] 22)) rfl (by simp [go_sem, Act.eval, e0]) ⟨(fun h => by cases h), trivial, ag.alloc _, fun _ => ⟨_, rfl, World.alloc_heap_new wq _⟩, fun h => (r2 h).agrees ((Agrees.refl _ wq).alloc _), fun h => (r3 h).agrees ((Agrees.refl _ wq).alloc _), fun h => (r4 h).agrees ((Agrees.refl _ wq).alloc _)⟩
          | 2, _ =>
            refine steps_of rfl ?_
            intro L aq wq hL hd st wi
            obtain ⟨u1, e1, V1⟩ := st.val 1 _ _ rfl rfl (hd ⟨1, .data⟩ (by simp) rfl)
            have hr := wi.2.1 (hd ⟨1, .data⟩ (by simp) rfl)
            rw [slotV_val rfl rfl e1] at hr
            obtain ⟨b, rfl, hb⟩ := hr
            refine opTo_call (w' := wq) (f := 13) (args := #[.slice (some ⟨b, 0, none⟩) 1 1]) rfl (by simp [go_sem, Act.eval, e1]) ((sum_row wq b _ _ _ _ _ hb (hbv.agrees wi.1 fun _ h => h)).mono ?_)
            rintro e w' ⟨rfl, hag⟩
            exact ⟨U (s), by rw [hsq], (fun h => by cases h), rfl, wiSums_mono wi hag⟩
          | 3, _ =>
            refine steps_of rfl ?_
            intro L aq wq hL hd st wi
            have o0 := st.outside (t := 0) rfl (v := .slice a1 n1 cap1) rfl
            exact opTo_val (v := .slice a1 n1 cap1) rfl (ex_move (.inl rfl) (eval_tmp o0)) ⟨(fun h => by cases h), rfl, wi⟩
          | 4, _ =>
            refine steps_of rfl ?_
            intro L aq wq hL hd st wi
            have o7 := st.outside (t := 7) rfl (v := .int .i64 (n1 : Int)) rfl
            exact opTo_val (v := .int .i64 (n1 : Int)) rfl (ex_move (.inl rfl) (eval_tmp o7)) ⟨(fun h => by cases h), rfl, wi⟩
          | 5, _ =>
            refine steps_of rfl ?_
            intro L aq wq hL hd st wi
            obtain ⟨u3, e3, V3⟩ := st.val 3 _ _ rfl rfl (hd ⟨3, .data⟩ (by simp) rfl)
            obtain rfl : .slice a1 n1 cap1 = u3 := V3.symm
            obtain ⟨u4, e4, V4⟩ := st.val 4 _ _ rfl rfl (hd ⟨4, .data⟩ (by simp) rfl)
            obtain rfl : .int .i64 (n1 : Int) = u4 := V4.symm
            exact opTo_val (v := .slice (slA a1 0 cap1) (n1 - 0) (cap1 - 0)) rfl (ex_slice rfl Try.underlying22 (by kernel_rfl) a1 n1 cap1 0 n1 (eval_tmp e3) (.inr ⟨rfl, rfl⟩) (.inl (by simp [Act.eval, e4])) (by omega) (by omega)) ⟨(fun h => by cases h), rfl, wi⟩
          | 6, _ =>
            refine steps_of rfl ?_
            intro L aq wq hL hd st wi
            obtain ⟨u5, e5, V5⟩ := st.val 5 _ _ rfl rfl (hd ⟨5, .data⟩ (by simp) rfl)
            obtain rfl : .slice (slA a1 0 cap1) (n1 - 0) (cap1 - 0) = u5 := V5.symm
            obtain ⟨ag, r1, r2, r3, r4⟩ := wi
            exact opTo_val (v := .slice (some ⟨wq.heap.size, 0, none⟩) 1 1) (w' := wq.alloc (.cells #[.slice (slA a1 0 cap1) (n1 - 0) (cap1 - 0)] 22)) rfl (by simp [go_sem, Act.eval, e5]) ⟨(fun h => by cases h), trivial, ag.alloc _, fun h => (r1 h).agrees ((Agrees.refl _ wq).alloc _), fun _ => ⟨_, rfl, World.alloc_heap_new wq _⟩, fun h => (r3 h).agrees ((Agrees.refl _ wq).alloc _), fun h => (r4 h).agrees ((Agrees.refl _ wq).alloc _)⟩
          | 7, _ =>
            refine steps_of rfl ?_
            intro L aq wq hL hd st wi
            obtain ⟨u6, e6, V6⟩ := st.val 6 _ _ rfl rfl (hd ⟨6, .data⟩ (by simp) rfl)
            have hr := wi.2.2.1 (hd ⟨6, .data⟩ (by simp) rfl)
            rw [slotV_val rfl rfl e6] at hr
            obtain ⟨b, rfl, hb⟩ := hr
            refine opTo_call (w' := wq) (f := 13) (args := #[.slice (some ⟨b, 0, none⟩) 1 1]) rfl (by simp [go_sem, Act.eval, e6]) ((sum_row wq b _ _ _ _ _ hb (hb1.agrees wi.1 fun _ h => h)).mono ?_)
            rintro e w' ⟨rfl, hag⟩
            exact ⟨U (s1), by rw [hs1q], (fun h => by cases h), rfl, wiSums_mono wi hag⟩
          | 8, _ =>
            refine steps_of rfl ?_
            intro L aq wq hL hd st wi
            have o1 := st.outside (t := 1) rfl (v := .slice a2 n2 cap2) rfl
            exact opTo_val (v := .slice a2 n2 cap2) rfl (ex_move (.inl rfl) (eval_tmp o1)) ⟨(fun h => by cases h), rfl, wi⟩
          | 9, _ =>
            refine steps_of rfl ?_
            intro L aq wq hL hd st wi
            have o7 := st.outside (t := 7) rfl (v := .int .i64 (n1 : Int)) rfl
            exact opTo_val (v := .int .i64 (n1 : Int)) rfl (ex_move (.inl rfl) (eval_tmp o7)) ⟨(fun h => by cases h), rfl, wi⟩
          | 10, _ =>
            refine steps_of rfl ?_
            intro L aq wq hL hd st wi
            obtain ⟨u8, e8, V8⟩ := st.val 8 _ _ rfl rfl (hd ⟨8, .data⟩ (by simp) rfl)
            obtain rfl : .slice a2 n2 cap2 = u8 := V8.symm
            obtain ⟨u9, e9, V9⟩ := st.val 9 _ _ rfl rfl (hd ⟨9, .data⟩ (by simp) rfl)
            obtain rfl : .int .i64 (n1 : Int) = u9 := V9.symm
            exact opTo_val (v := .slice (slA a2 0 cap2) (n1 - 0) (cap2 - 0)) rfl (ex_slice rfl Try.underlying22 (by kernel_rfl) a2 n2 cap2 0 n1 (eval_tmp e8) (.inr ⟨rfl, rfl⟩) (.inl (by simp [Act.eval, e9])) (by omega) (by omega)) ⟨(fun h => by cases h), rfl, wi⟩
          | 11, _ =>
            refine steps_of rfl ?_
            intro L aq wq hL hd st wi
            obtain ⟨u10, e10, V10⟩ := st.val 10 _ _ rfl rfl (hd ⟨10, .data⟩ (by simp) rfl)
            obtain rfl : .slice (slA a2 0 cap2) (n1 - 0) (cap2 - 0) = u10 := V10.symm
            obtain ⟨ag, r1, r2, r3, r4⟩ := wi
            exact opTo_val (v := .slice (some ⟨wq.heap.size, 0, none⟩) 1 1) (w' := wq.alloc (.cells #[.slice (slA a2 0 cap2) (n1 - 0) (cap2 - 0)] 22)) rfl (by simp [go_sem, Act.eval, e10]) ⟨(fun h => by cases h), trivial, ag.alloc _, fun h => (r1 h).agrees ((Agrees.refl _ wq).alloc _), fun h => (r2 h).agrees ((Agrees.refl _ wq).alloc _), fun _ => ⟨_, rfl, World.alloc_heap_new wq _⟩, fun h => (r4 h).agrees ((Agrees.refl _ wq).alloc _)⟩
          | 12, _ =>
            refine steps_of rfl ?_
            intro L aq wq hL hd st wi
            obtain ⟨u11, e11, V11⟩ := st.val 11 _ _ rfl rfl (hd ⟨11, .data⟩ (by simp) rfl)
            have hr := wi.2.2.2.1 (hd ⟨11, .data⟩ (by simp) rfl)
            rw [slotV_val rfl rfl e11] at hr
            obtain ⟨b, rfl, hb⟩ := hr
            refine opTo_call (w' := wq) (f := 13) (args := #[.slice (some ⟨b, 0, none⟩) 1 1]) rfl (by simp [go_sem, Act.eval, e11]) ((sum_row wq b _ _ _ _ _ hb (hb2.agrees wi.1 fun _ h => h)).mono ?_)
            rintro e w' ⟨rfl, hag⟩
            exact ⟨U (s2), by rw [hs2q], (fun h => by cases h), rfl, wiSums_mono wi hag⟩
          | 13, _ =>
            refine steps_of rfl ?_
            intro L aq wq hL hd st wi
            obtain ⟨u7, e7, V7⟩ := st.val 7 _ _ rfl rfl (hd ⟨7, .data⟩ (by simp) rfl)
            obtain rfl : U (s1) = u7 := V7.symm
            obtain ⟨u12, e12, V12⟩ := st.val 12 _ _ rfl rfl (hd ⟨12, .data⟩ (by simp) rfl)
            obtain rfl : U (s2) = u12 := V12.symm
            exact opTo_val (v := U (s1 ^^^ s2)) rfl (by simp [go_sem, Act.eval, e7, e12]) ⟨(fun h => by cases h), rfl, wi⟩
          | 14, _ =>
            refine steps_of rfl ?_
            intro L aq wq hL hd st wi
            have o2 := st.outside (t := 2) rfl (v := .slice a3 n3 cap3) rfl
            exact opTo_val (v := .slice a3 n3 cap3) rfl (ex_move (.inl rfl) (eval_tmp o2)) ⟨(fun h => by cases h), rfl, wi⟩
          | 15, _ =>
            refine steps_of rfl ?_
            intro L aq wq hL hd st wi
            have o7 := st.outside (t := 7) rfl (v := .int .i64 (n1 : Int)) rfl
            exact opTo_val (v := .int .i64 (n1 : Int)) rfl (ex_move (.inl rfl) (eval_tmp o7)) ⟨(fun h => by cases h), rfl, wi⟩
          | 16, _ =>
            refine steps_of rfl ?_
            intro L aq wq hL hd st wi
            obtain ⟨u14, e14, V14⟩ := st.val 14 _ _ rfl rfl (hd ⟨14, .data⟩ (by simp) rfl)
            obtain rfl : .slice a3 n3 cap3 = u14 := V14.symm
            obtain ⟨u15, e15, V15⟩ := st.val 15 _ _ rfl rfl (hd ⟨15, .data⟩ (by simp) rfl)
            obtain rfl : .int .i64 (n1 : Int) = u15 := V15.symm
            exact opTo_val (v := .slice (slA a3 0 cap3) (n1 - 0) (cap3 - 0)) rfl (ex_slice rfl Try.underlying22 (by kernel_rfl) a3 n3 cap3 0 n1 (eval_tmp e14) (.inr ⟨rfl, rfl⟩) (.inl (by simp [Act.eval, e15])) (by omega) (by omega)) ⟨(fun h => by cases h), rfl, wi⟩
          | 17, _ =>
            refine steps_of rfl ?_
            intro L aq wq hL hd st wi
            obtain ⟨u16, e16, V16⟩ := st.val 16 _ _ rfl rfl (hd ⟨16, .data⟩ (by simp) rfl)
            obtain rfl : .slice (slA a3 0 cap3) (n1 - 0) (cap3 - 0) = u16 := V16.symm
            obtain ⟨ag, r1, r2, r3, r4⟩ := wi
            exact opTo_val (v := .slice (some ⟨wq.heap.size, 0, none⟩) 1 1) (w' := wq.alloc (.cells #[.slice (slA a3 0 cap3) (n1 - 0) (cap3 - 0)] 22)) rfl (by simp [go_sem, Act.eval, e16]) ⟨(fun h => by cases h), trivial, ag.alloc _, fun h => (r1 h).agrees ((Agrees.refl _ wq).alloc _), fun h => (r2 h).agrees ((Agrees.refl _ wq).alloc _), fun h => (r3 h).agrees ((Agrees.refl _ wq).alloc _), fun _ => ⟨_, rfl, World.alloc_heap_new wq _⟩⟩
          | 18, _ =>
            refine steps_of rfl ?_
            intro L aq wq hL hd st wi
            obtain ⟨u17, e17, V17⟩ := st.val 17 _ _ rfl rfl (hd ⟨17, .data⟩ (by simp) rfl)
            have hr := wi.2.2.2.2 (hd ⟨17, .data⟩ (by simp) rfl)
            rw [slotV_val rfl rfl e17] at hr
            obtain ⟨b, rfl, hb⟩ := hr
            refine opTo_call (w' := wq) (f := 13) (args := #[.slice (some ⟨b, 0, none⟩) 1 1]) rfl (by simp [go_sem, Act.eval, e17]) ((sum_row wq b _ _ _ _ _ hb (hb3.agrees wi.1 fun _ h => h)).mono ?_)
            rintro e w' ⟨rfl, hag⟩
            exact ⟨U (s3), by rw [hs3q], (fun h => by cases h), rfl, wiSums_mono wi hag⟩
          | 19, _ =>
            refine steps_of rfl ?_
            intro L aq wq hL hd st wi
            obtain ⟨u13, e13, V13⟩ := st.val 13 _ _ rfl rfl (hd ⟨13, .data⟩ (by simp) rfl)
            obtain rfl : U (s1 ^^^ s2) = u13 := V13.symm
            obtain ⟨u18, e18, V18⟩ := st.val 18 _ _ rfl rfl (hd ⟨18, .data⟩ (by simp) rfl)
            obtain rfl : U (s3) = u18 := V18.symm
            exact opTo_val (v := U (s1 ^^^ s2 ^^^ s3)) rfl (by simp [go_sem, Act.eval, e13, e18]) ⟨(fun h => by cases h), rfl, wi⟩
          | 20, _ =>
            refine steps_of rfl ?_
            intro L aq wq hL hd st wi
            obtain ⟨u2, e2, V2⟩ := st.val 2 _ _ rfl rfl (hd ⟨2, .data⟩ (by simp) rfl)
            obtain rfl : U (s) = u2 := V2.symm
            obtain ⟨u19, e19, V19⟩ := st.val 19 _ _ rfl rfl (hd ⟨19, .data⟩ (by simp) rfl)
            obtain rfl : U (s1 ^^^ s2 ^^^ s3) = u19 := V19.symm
            exact opTo_val (v := .bool true) rfl (by simp [go_sem, Act.eval, e2, e19, hsum]) ⟨(fun h => by cases h), rfl, wi⟩
          | 21, _ =>
            refine steps_of rfl ?_
            intro L aq wq hL hd st wi
            obtain ⟨u20, e20, V20⟩ := st.val 20 _ _ rfl rfl (hd ⟨20, .data⟩ (by simp) rfl)
            obtain rfl : .bool true = u20 := V20.symm
            exact opTo_val (v := .bool true) rfl (ex_move (.inl rfl) (eval_tmp e20)) ⟨(fun h => by cases h), rfl, wi⟩
          | 22, _ =>
            refine steps_of rfl ?_
            intro L aq wq hL hd st wi
            obtain ⟨u21, e21, V21⟩ := st.val 21 _ _ rfl rfl (hd ⟨21, .chain⟩ (by simp) rfl)
            obtain rfl : .bool true = u21 := V21.symm
            refine opTo_call (w' := wq) (f := 12) (args := #[]) (by simp [Region.wanted, yielded, e21]) (by simp [go_sem, Act.eval]) ((wakes01_calls wq).mono ?_)
            rintro e w' ⟨rfl, hag⟩
            exact ⟨_, rfl, (fun h => by cases h), rfl, wiSums_mono wi hag⟩
          | 23, _ =>
            refine steps_of rfl ?_
            intro L aq wq hL hd st wi
            obtain ⟨u21, e21, V21⟩ := st.val 21 _ _ rfl rfl (hd ⟨21, .data⟩ (by simp) rfl)
            obtain rfl : .bool true = u21 := V21.symm
            obtain ⟨u22, e22, V22⟩ := st.val 22 _ _ rfl rfl (hd ⟨22, .data⟩ (by simp) rfl)
            obtain rfl : .bool true = u22 := V22.symm
            exact opTo_val (v := .bool true) rfl (by simp [go_sem, Act.eval, e21, e22]) ⟨(fun h => by cases h), rfl, wi⟩
          | 24, _ =>
            refine steps_of rfl ?_
            intro L aq wq hL hd st wi
            obtain ⟨u23, e23, V23⟩ := st.val 23 _ _ rfl rfl (hd ⟨23, .data⟩ (by simp) rfl)
            obtain rfl : .bool true = u23 := V23.symm
            exact opTo_val (v := .bool true) rfl (ex_move (.inr rfl) (eval_tmp e23)) ⟨(fun h => by cases h), rfl, wi⟩
          | (i + 25), h => omega
        case hend2 =>
          intro vals w' hV hW
          have hF := Lib.hid (HA.out.trans hW.1)
          have x24 : vals 24 = .bool true := hV 24 _ _ rfl rfl
          simp only [putAll, Act.put, List.setIfInBounds_toArray, List.set_cons_succ, List.set_cons_zero, x24]
          clear hV hW hsq hs1q hs2q hs3q
          go_wp2_with fail
          go_ret
          exact ⟨rfl, hF.out⟩
end Suture
