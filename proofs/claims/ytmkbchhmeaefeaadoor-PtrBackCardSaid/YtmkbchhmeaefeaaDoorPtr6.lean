/-
  POINTERS: ptr.None; ptr.Take of too few bytes.
  Conditions: none.
-/
import Derived.Test.YtmkbchhmeaefeaaDoorPack4
namespace Suture
open Go Go.RowKit Go.Proofs

theorem keyable_ptr : Keyable Tryd.prog 3 27 := ⟨by decide, by kernel_rfl, by kernel_rfl, by kernel_rfl⟩
theorem keyed_ptr (x : Ptr) (hx : x.ok) : Keyed Tryd.prog 3 27 x.cells := by
  obtain ⟨kd, a0, a1, bi, su⟩ := x
  obtain ⟨hk, h0, h1, hb⟩ := hx
  simp only at hk h0 h1 hb
  have hs := su.isLt
  have w0 : (Lit.int .u8 kd).wf = true := by simp [Lit.wf, IntKind.min, IntKind.max, IntKind.signed, IntKind.bits]; omega
  have w1 : (Lit.int .u16 a0).wf = true := by simp [Lit.wf, IntKind.min, IntKind.max, IntKind.signed, IntKind.bits]; omega
  have w2 : (Lit.int .u16 a1).wf = true := by simp [Lit.wf, IntKind.min, IntKind.max, IntKind.signed, IntKind.bits]; omega
  have w3 : (Lit.int .u32 bi).wf = true := by simp [Lit.wf, IntKind.min, IntKind.max, IntKind.signed, IntKind.bits]; omega
  have w4 : (Lit.int .u64 (su.toNat : Int)).wf = true := by simp [Lit.wf, IntKind.min, IntKind.max, IntKind.signed, IntKind.bits]; omega
  have c0 : Tryd.prog.cellsOf 27 = 5 := by kernel_rfl
  have c1 : Tryd.prog.cellsOf 5 = 1 := by kernel_rfl
  have c2 : Tryd.prog.cellsOf 22 = 1 := by kernel_rfl
  have c3 : Tryd.prog.cellsOf 24 = 1 := by kernel_rfl
  have c4 : Tryd.prog.cellsOf 25 = 1 := by kernel_rfl
  have c5 : Tryd.prog.cellsOf 23 = 2 := by kernel_rfl
  refine ⟨by simp [Value.formed, Tryd.underlying27, c0, Ptr.cells], [.int .u8 kd, .int .u16 a0, .int .u16 a1, .int .u32 bi, .int .u64 su.toNat], ?_⟩
  have hU : U su = .int .u64 su.toNat := rfl
  have k8 : Tryd.prog.keyLits 2 5 [.int .u8 kd] = some [.int .u8 kd] := by unfold Program.keyLits; simp [Tryd.underlying5, w0]
  have k16 : ∀ a, (Lit.int .u16 a).wf = true → Tryd.prog.keyLits 1 22 [.int .u16 a] = some [.int .u16 a] := fun a h => by unfold Program.keyLits; simp [Tryd.underlying22, h]
  have k32 : Tryd.prog.keyLits 2 24 [.int .u32 bi] = some [.int .u32 bi] := by unfold Program.keyLits; simp [Tryd.underlying24, w3]
  have k64 : Tryd.prog.keyLits 2 25 [.int .u64 su.toNat] = some [.int .u64 su.toNat] := by unfold Program.keyLits; simp [Tryd.underlying25, w4]
  have k2 : Tryd.prog.keyLits 2 23 [.int .u16 a0, .int .u16 a1] = some [.int .u16 a0, .int .u16 a1] := by
    unfold Program.keyLits
    simp only [Tryd.underlying23]
    rw [c5, c2, show List.range 2 = [0, 1] from rfl]
    simp [k16 a0 w1, k16 a1 w2]
  simp only [Ptr.cells, hU]
  unfold Program.keyLits
  simp only [Tryd.underlying27]
  simp [c0, c1, c3, c4, c5, k8, k2, k32, k64]

theorem wpList_eql {P : Program} {m : Nat} {t ty : TypeId} (hK : Keyable P m t) {xs ys : Array Value} (hx : Keyed P m t xs) (hy : Keyed P m t ys) {ops : Array Oper} {rest : List Oper} {o : Oper} {a : Act} {w : World} {Q : Exit → Act → World → Prop} {x y : Operand}
    (hw : Region.wanted o (yielded ops a.tmps) = true) (ho : o.op = .binOp .eql t x y ty) (ex : a.eval x = .agg xs) (ey : a.eval y = .agg ys) (k : ∀ r : Bool, (r = true ↔ xs = ys) → wpList P ops Q rest (a.put o.dst (.bool r)) w) :
    wpList P ops Q (o :: rest) a w := by
  obtain ⟨r, hr, hiff⟩ := ex_eql hK hx hy (w := w) ho ex ey
  exact wpList_val hw hr (k r hiff)

def Ptr.none (x : Ptr) : Bool := x.kd == 0 && x.a0 == 0 && x.a1 == 0 && x.bi == 0 && x.su == 0#64
def Ptr.zero : Ptr := ⟨0, 0, 0, 0, 0#64⟩
theorem Ptr.zero_ok : Ptr.zero.ok := by simp [Ptr.ok, Ptr.zero]
theorem Ptr.none_iff (x : Ptr) : x.cells = Ptr.zero.cells ↔ x.none = true := by
  obtain ⟨kd, a0, a1, bi, su⟩ := x
  simp only [Ptr.cells, Ptr.none, Ptr.zero]
  constructor
  · intro h
    simp at h
    obtain ⟨h1, h2, h3, h4, h5⟩ := h
    have : su = 0#64 := by
      unfold U at h5
      simp at h5
      exact BitVec.eq_of_toNat_eq (by simpa using h5)
    simp [h1, h2, h3, h4, this]
  · intro h
    simp at h
    obtain ⟨⟨⟨⟨h1, h2⟩, h3⟩, h4⟩, h5⟩ := h
    simp [h1, h2, h3, h4, h5]

set_option maxHeartbeats 1000000 in
theorem none_calls (x : Ptr) (hx : x.ok) (w : World) : Calls Tryd.prog 16 #[.agg x.cells] w fun e w' => e = .returned (.bool x.none) ∧ Agrees All w w' := by
  have hb0 := World.alloc_heap_new w (.cells x.cells 27)
  have HB := Lib.hid hb0
  have HX := Lib.hid (keyed_ptr x hx)
  have HZ := Lib.hid (keyed_ptr Ptr.zero Ptr.zero_ok)
  have HI := Lib.hid x.none_iff
  clear hb0
  go_enter Tryd.func16, Tryd.ntmps16
  go_wp2_with (first | (refine wpList_val rfl (ex_load (ty := 27) rfl isAgg_ptr w.heap.size 0 rfl x.cells rfl (x.load HB.out)) ?_) | (refine wpList_eql keyable_ptr HX.out HZ.out rfl rfl rfl rfl ?_; intro r hr))
  have e : r = x.none := by
    have h := hr.trans HI.out
    cases r <;> cases hn : x.none <;> simp_all
  have HE := Lib.hid e
  clear hr e
  go_ret
  exact ⟨by rw [← HE.out]; rfl, (Agrees.refl _ w).alloc _⟩

theorem results_a1t2 {P : Program} {fn : Func} {p u v : Tmp} {ty : TypeId} {n : Nat} (h : fn.results = #[.cell p ty, .tmp u, .tmp v]) (tmps : Array Value) {W : World} {b : Nat} {vs : Array Value} (hp : tmps.getD p undef = .pointer (some ⟨b, 0, none⟩)) (hA : IsAgg P ty n) (hn : vs.size = n)
    (hc : ∀ j, j < n → W.cell? ⟨b, 0 + j, none⟩ = vs[j]?) : (results fn tmps).run P W = .ok (.tuple #[.agg vs, tmps.getD u undef, tmps.getD v undef]) W := by
  have hp' : tmps[p]?.getD undef = .pointer (some ⟨b, 0, none⟩) := by simpa using hp
  simp [results, h, hp', asAddr, run_loadVar_agg hA b 0 vs hn hc]

set_option maxHeartbeats 1000000 in
theorem take_short (a : Option Addr) (n cap : Nat) (hn : n < 17) (w : World) : Calls Tryd.prog 9 #[.slice a n cap] w fun e w' => e = .returned (.tuple #[.agg Ptr.zero.cells, .slice a n cap, .int .i64 20]) ∧ Agrees All w w' := by
  go_enter Tryd.func9, Tryd.ntmps9
  go_wp2_with fail
  exact bodyPost_ret (results_a1t2 rfl _ (b := w.heap.size) rfl isAgg_ptr (vs := Ptr.zero.cells) rfl (Ptr.zero.load (World.alloc_heap_new w (.cells Ptr.zero.cells 27)))) rfl ⟨rfl, (Agrees.refl _ w).alloc _⟩
end Suture
