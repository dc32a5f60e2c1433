/-
  crc.bytes: what its iterator hands over.
  Conditions: none beyond the slices' own readings.
-/
import Derived.Test.YtmkbchhmeaefeaaDoorCrc1
import Derived.Test.YtmkbchhmeaefeaaDoorMem
import Derived.Lib.Hide
namespace Suture
open Go Go.RowKit Go.Proofs
attribute [local go_sem] Oper.semAt_some

set_option maxHeartbeats 1000000 in
theorem bytes1_iter (R : Nat → Prop) (n₀ : Nat) (w0 : World) (Bx : Nat) (a : Option Addr) (n cap : Nat) (parts : List (List (BitVec 8)))
    (hbox : w0.cell? ⟨Bx, 0, none⟩ = some (.slice a n cap)) (hRB : R Bx) (hB : Bx < w0.heap.size) (hR : ∀ b, R b → b < w0.heap.size) (hv : PartsAt R w0 (.slice a n cap) parts) :
    IterAt Tryd.prog 34 #[.pointer (some ⟨Bx, 0, none⟩)] (fun k => #[B (parts.flatten.getD k 0)]) parts.flatten.length n₀ R w0 := by
  intro l J Jx C W hag hC hJ hJx hY h0
  refine (callsIn_wide (n := 0)).1 ?_
  have hFn : ∀ f, Fence.wide.fn f := fun _ => trivial
  have hro : Fence.wide.round = none := rfl
  have hdp : Fence.wide.depth = none := rfl
  generalize Fence.wide = F at *
  obtain ⟨hlen, hbd, hat⟩ := hv.at
  have HL := Lib.hid hlen
  clear hlen
  have hbW : W.cell? ⟨Bx, 0, none⟩ = some (.slice a n cap) := (hag.cell (p := ⟨Bx, 0, none⟩) hB hRB).trans hbox
  refine callsIn_of_wp Tryd.func34 rfl (hFn _) ?_ hro
  simp only [Tryd.ntmps34, List.size_toArray, List.length_cons, List.length_nil, Nat.reduceAdd, Nat.reduceSub, Array.replicate_succ, Array.replicate_zero, List.push_toArray, List.append_toArray, List.nil_append, List.cons_append]
  gi_wp2
  gi_loopw [9] (fun v wr => ∃ (C : Nat → Prop) (i : Nat), i ≤ n ∧ v = .int .i64 i ∧ J (parts.take i).flatten.length C wr ∧ Agrees R w0 wr ∧ (∀ b, C b → ¬ R b ∧ b < wr.heap.size)) (fun v _ => n - (intOf v).toNat)
  case atStart => exact ⟨C, 0, by omega, rfl, by simpa using h0, hag, hC⟩
  case round =>
    obtain ⟨C, i, hi, rfl, hj, hag, hC⟩ := hrel
    have hle : ∀ j, j < (parts.getD i []).length → i < n → (parts.take i).flatten.length + j < parts.flatten.length := fun j h h' => by
      have := flat_take_le parts i (by rw [HL.out]; exact h'); omega
    by_cases hlt : i < n
    · obtain ⟨b, off, a', n', cap', rfl, hRb, hbl, hcell, hby⟩ := hat i hlt
      obtain ⟨hl', hb', hat'⟩ := hby.at
      have hc : wr.cell? ⟨b, off + i, none⟩ = some (.slice a' n' cap') := (hag.cell (p := ⟨b, off + i, none⟩) hbl hRb).trans hcell
      have HL' := Lib.hid hl'
      clear hl' hcell
      gi_wp2
      obtain ⟨wo, rfl⟩ : ∃ wo : World, wo = wr := ⟨_, rfl⟩
      gi_loopw [15] (fun v wr => ∃ (C : Nat → Prop) (j : Nat), j ≤ n' ∧ v = .int .i64 j ∧ J ((parts.take i).flatten.length + j) C wr ∧ Agrees R w0 wr ∧ (∀ b, C b → ¬ R b ∧ b < wr.heap.size)) (fun v _ => n' - (intOf v).toNat)
      case atStart => exact ⟨C, 0, by omega, rfl, hj, hag, hC⟩
      case round =>
        obtain ⟨C, j, hjn, rfl, hj, hag, hC⟩ := hrel
        by_cases hjlt : j < n'
        · obtain ⟨b2, off2, rfl, hRb2, hbl2, hcell2⟩ := hat' j hjlt
          have hc2 : wr.cell? ⟨b2, off2 + j, none⟩ = some (B ((parts.getD i []).getD j 0)) := (hag.cell (p := ⟨b2, off2 + j, none⟩) hbl2 hRb2).trans hcell2
          obtain ⟨fn, tmps, assign, body, hy, hR'⟩ := hY _ C wr (hle j (by rw [HL'.out]; exact hjlt) hlt) hj (fun b hb => (hC b hb).2)
          rw [flat_get 0 parts i j (by rw [HL.out]; exact hlt) (by rw [HL'.out]; exact hjlt)] at hy
          clear hcell2
          generalize (parts.getD i []).getD j 0 = x at hc2 hy
          gi_wp2
          refine hR'.mono ?_
          rintro e W3 (⟨rfl, hag3, C3, hj3, hC3⟩ | ⟨rfl, hag3, C3, hj3, hC3⟩)
          · gi_wp2
            go_roundw
            case rel => exact ⟨C3, j + 1, by omega, by go_num, hj3, hag.trans' hag3 (fun b hb hr hc => (hC b hc).1 hr), fun b hb => ⟨fun hr => ((hC3 b hb).2.elim (fun h => (hC b h).1 hr) (fun h => by have := hR b hr; have := hag.size; omega)), (hC3 b hb).1⟩⟩
            case measure => simp [intOf]; omega
          · gi_wp2
            refine bodyPost_ret (results_none rfl _ _ _) rfl ?_
            exact ⟨⟨_, rfl⟩, C3, .inr ⟨_, hle j (by rw [HL'.out]; exact hjlt) hlt, hj3⟩⟩
        · obtain rfl : j = n' := by omega
          gi_wp2
          go_roundw
          case rel => exact ⟨C, i + 1, by omega, by go_num, by rw [flat_take_succ parts i (by rw [HL.out]; exact hlt), HL'.out]; exact hj, hag, hC⟩
          case measure => simp [intOf]; omega
    · obtain rfl : i = n := by omega
      gi_wp2
      go_end0
      exact ⟨⟨_, rfl⟩, C, .inl (by rw [List.take_of_length_le (by rw [HL.out]; omega)] at hj; exact hj)⟩
end Suture
