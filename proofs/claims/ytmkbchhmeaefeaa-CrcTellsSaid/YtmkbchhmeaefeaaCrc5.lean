/-
  suturelaw01.wakes: what the document says of nine digits holds.
  Conditions: none.
-/
import Derived.Test.YtmkbchhmeaefeaaCrc4
import Derived.Lib.SlBytesConst
namespace Suture
open Go Go.RowKit Go.Proofs

theorem parts_one (R : Nat → Prop) (W : World) (b n cap : Nat) (a : Option Addr) (bs : List (BitVec 8)) (hR : R b) (hb : b < W.heap.size) (hc : W.cell? ⟨b, 0, none⟩ = some (.slice a n cap)) (hv : BytesAt R W (.slice a n cap) bs) :
    PartsAt R W (.slice (some ⟨b, 0, none⟩) 1 1) [bs] := by
  refine ⟨[.slice a n cap], ⟨_, 1, 1, rfl, rfl, by omega, fun i x hx => ?_⟩, rfl, fun i x p hx hp => ?_⟩
  · cases i with
    | zero => simp at hx; subst hx; exact ⟨b, 0, rfl, hR, hb, hc⟩
    | succ i => simp at hx
  · cases i with
    | zero => simp at hx hp; subst hx; subst hp; exact hv
    | succ i => simp at hx
theorem parts_none (R : Nat → Prop) (W : World) : PartsAt R W (.slice none 0 0) [] :=
  ⟨[], ⟨_, 0, 0, rfl, rfl, by omega, fun i x hx => by simp at hx⟩, rfl, fun i x p hx hp => by simp at hx⟩

def digits : List (BitVec 8) := [0x31#8, 0x32#8, 0x33#8, 0x34#8, 0x35#8, 0x36#8, 0x37#8, 0x38#8, 0x39#8]
def digitCells : Array Value := #[.int .u8 49, .int .u8 50, .int .u8 51, .int .u8 52, .int .u8 53, .int .u8 54, .int .u8 55, .int .u8 56, .int .u8 57]
theorem digitCells_eq : digitCells = (digits.map B).toArray := rfl

theorem wake_parts (w : World) (t1 t2 : TypeId) (fr : Nat × Nat) (W : World) (hW : W = (w.alloc (.cells digitCells t1 fr)).alloc (.cells #[.slice (some ⟨w.heap.size, 0, none⟩) 9 9] t2)) :
    PartsAt (fun b => b < W.heap.size) W (.slice (some ⟨w.heap.size + 1, 0, none⟩) 1 1) [digits] := by
  have h1 : W.heap[w.heap.size]? = some (.cells digitCells t1 fr) := by
    rw [hW]; exact (Below.heap_alloc _ _ _ (by simp)).trans (World.alloc_heap_new w _)
  have hs : W.heap.size = w.heap.size + 2 := by rw [hW]; simp
  have h2 : W.heap[w.heap.size + 1]? = some (.cells #[.slice (some ⟨w.heap.size, 0, none⟩) 9 9] t2) := by
    rw [hW]; have := World.alloc_heap_new (w.alloc (.cells digitCells t1 fr)) (.cells #[.slice (some ⟨w.heap.size, 0, none⟩) 9 9] t2); rwa [World.size_alloc] at this
  refine parts_one _ W (w.heap.size + 1) 9 9 (some ⟨w.heap.size, 0, none⟩) digits (by omega) (by omega) (by rw [cell_of_row W _ _ _ _ _ h2]; rfl) ?_
  refine ⟨_, 9, 9, rfl, rfl, by omega, fun i x hx => ⟨w.heap.size, 0, rfl, by omega, by omega, ?_⟩⟩
  rw [Nat.zero_add, cell_of_row W _ _ _ _ _ h1, digitCells_eq, List.getElem?_toArray]
  exact hx

theorem part_u64 (cs : Array Value) (i : Nat) (v : Value) (w : World) (h : cs[i]? = some v) : (part 24 cs i).run Try.prog w = .ok v w := by
  simp [go_sem, h]

theorem sum_nine (w : World) (W : World) (hW : W = (w.alloc (.cells digitCells 5 (9, 10))).alloc (.cells #[.slice (some ⟨w.heap.size, 0, none⟩) 9 9] 22)) :
    Calls Try.prog 13 #[.slice (some ⟨w.heap.size + 1, 0, none⟩) 1 1] W fun e w' => e = .returned (.int .u64 11051210869376104954) ∧ Agrees All w w' := by
  refine (sum_calls _ _ _ [digits] W (wake_parts w _ _ _ W hW)).mono ?_
  rintro e w' ⟨rfl, h⟩
  refine ⟨?_, ?_⟩
  · have e1 : [digits].flatten = digits := by simp
    rw [e1]; unfold digits; rw [wake_nine]; rfl
  · refine Agrees.trans ?_ h
    rw [hW]; exact ((Agrees.refl _ w).alloc _).alloc _
theorem sum_nothing (W : World) : Calls Try.prog 13 #[.slice none 0 0] W fun e w' => e = .returned (.int .u64 0) ∧ Agrees All W w' := by
  refine (sum_calls _ _ _ [] W (parts_none _ W)).mono ?_
  rintro e w' ⟨rfl, h⟩
  exact ⟨by rw [List.flatten_nil, wake_none]; rfl, h⟩
theorem step_nought (W : World) : Calls Try.prog 14 #[.int .u64 0, .int .u8 0] W fun e w' => e = .returned (.int .u64 0) ∧ W = w' := by
  refine (step_calls 0#64 0#8 W).mono ?_
  rintro e w' ⟨rfl, h⟩
  exact ⟨by rw [wake_step]; rfl, h⟩
theorem tab_128 : (tabCells 256)[128]? = some (.int .u64 14514072000185962306) := by
  rw [tabCells_get 256 128 (by decide), if_pos (by decide)]
  unfold tabAt
  rw [show BitVec.ofNat 8 128 = 0x80#8 from rfl, wake_table]; rfl

set_option maxHeartbeats 1000000 in
set_option maxRecDepth 100000 in
theorem wakes01_calls (w : World) : Calls Try.prog 12 #[] w fun e w' => e = .returned (.bool true) ∧ Agrees All w w' := by
  have kc := fun (w : World) (C : Array Value) (n c : Nat) => Lib.run_convert_bytes_const (P := Try.prog) w 22 5 C n c Try.underlying22 Try.underlying5
  go_enter Try.func12, Try.ntmps12
  go_wp2_with fail
  clear kc
  refine (sum_nine w _ rfl).mono ?_
  rintro e w1 ⟨rfl, hag1⟩
  go_wp2_with fail
  refine (sum_nothing _).mono ?_
  rintro e w2 ⟨rfl, hag2⟩
  go_wp2_with fail
  refine (step_nought _).mono ?_
  rintro e w3 ⟨rfl, rfl⟩
  go_wp2_with fail
  refine (table_calls _).mono ?_
  rintro e w4 ⟨rfl, hag4⟩
  go_wp2_with (refine wpList_val rfl (ex_index1 (T := 66) rfl Try.underlying66 (fun cs i v h => part_u64 cs i v _ h) (by kernel_rfl) (tabCells 256) rfl 128 rfl (by decide) (by decide) _ tab_128) ?_)
  go_ret
  exact ⟨rfl, (hag1.trans hag2).trans hag4⟩
end Suture
