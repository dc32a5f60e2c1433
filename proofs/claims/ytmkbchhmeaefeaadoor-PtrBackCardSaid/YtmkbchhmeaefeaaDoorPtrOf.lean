/-
  POINTERS: ptr.Of.
  Conditions: none.
-/
import Derived.Test.YtmkbchhmeaefeaaDoorPtr3
namespace Suture
open Go Go.RowKit Go.Proofs

set_option maxHeartbeats 2000000 in
set_option maxRecDepth 100000 in
theorem of_calls (kd a b bi : Int) (p : List (BitVec 8)) (hl : p.length = 256) (w : World) :
    Calls Tryd.prog 10 #[.int .u8 kd, .int .i64 a, .int .i64 b, .int .u32 bi, .agg (pageCells p)] w fun e w' => e = .returned (.agg (ptrOf kd a b bi p).cells) ∧ Agrees All w w' := by
  obtain ⟨W1, hW1⟩ : ∃ W1, (w.alloc (.cells (pageCells p) 37)).alloc (.cells #[.int .u8 0, .int .u16 0, .int .u16 0, .int .u32 0, .int .u64 0] 27) = W1 := ⟨_, rfl⟩
  have hA : Agrees All w W1 := by rw [← hW1]; exact ((Agrees.refl _ w).alloc _).alloc _
  have hgr : W1.heap[w.heap.size]? = some (.cells (pageCells p) 37 (0, 0)) := by rw [← hW1, heap_alloc_old _ _ (by simp)]; exact World.alloc_heap_new w _
  have hpr : W1.heap[w.heap.size + 1]? = some (.cells #[.int .u8 0, .int .u16 0, .int .u16 0, .int .u32 0, .int .u64 0] 27 (0, 0)) := by
    rw [← hW1]; have := World.alloc_heap_new (w.alloc (.cells (pageCells p) 37)) (.cells #[.int .u8 0, .int .u16 0, .int .u16 0, .int .u32 0, .int .u64 0] 27); rwa [World.size_alloc] at this
  have HA := Lib.hid hA
  have HP := Lib.hid hpr
  have HG := Lib.hid hgr
  clear hA hpr hgr
  go_enter Tryd.func10, Tryd.ntmps10
  go_wp2_with (refine wpList_val rfl (ex_load (ty := 37) rfl isAgg_page w.heap.size 0 rfl (pageCells p) (by rw [pageCells_size]; exact hl) (fun j _ => by rw [Nat.zero_add]; exact cell_of_row _ _ _ _ _ _ HG.out)) ?_)
  all_goals
    first
      | have HK3 := Lib.hid (show kd = 3 by simpa using ‹(kd == 3) = true›)
      | have HK3 := Lib.hid (show ¬ kd = 3 by simpa using ‹(kd == 3) = false›)
    refine (crcPage_calls p hl _).mono ?_
    rintro e W2 ⟨rfl, hag⟩
    have hp2 := (hag.block _ (Array.getElem?_eq_some_iff.1 HP.out).1 trivial).trans HP.out
    have HP2 := Lib.hid hp2
    have HA2 := Lib.hid (HA.out.trans hag)
    clear hp2 hag hW1
    go_wp2_with (refine wpList_unit rfl (ex_store (ty := 27) rfl isAgg_ptr.2 (w.heap.size + 1) 0 rfl _ _ rfl rfl HP2.out (by decide) (by intro v hv; simp at hv; rcases hv with rfl | rfl | rfl | rfl | rfl <;> rfl)) ?_)
    refine bodyPost_ret (results_cell_row rfl _ _ (w.heap.size + 1) _ _ _ _ rfl (setRow_heap _ _ _ _ _ _ HP2.out) Tryd.underlying27 rfl (by kernel_rfl)) rfl ⟨?_, HA2.out.setRow (.inr (by omega)) _⟩
    have hk3 := HK3.out
    simp [ptrOf, Ptr.cells, w16, hk3]
end Suture
