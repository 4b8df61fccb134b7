/- glob.one and glob.any return the part of one byte and of any byte, for every byte; nothing that was there changes. -/
import Derived.Test.YtolaecdopfmbgaaDoorGlA
namespace Go.Proofs.YtolaecdopfmbgaaDoor.Gl
open Go.RowKit
attribute [local go_sem] setRow_alloc_at setRow_alloc_past setRow_drew

set_option maxHeartbeats 400000 in
theorem one_calls (c : Int) (w : World) (h0 : 0 ≤ c) (h1 : c < 256) :
    Calls Tryd.prog 105 #[.int .u8 c] w fun e w' => e = .returned (.agg (partCells false (upd noBytes c.toNat true))) ∧ Below w.heap.size w w' := by
  have c1 := partCells_set false noBytes c.toNat true (by omega)
  have c2 := partCells_at false noBytes c.toNat (by omega)
  go_enter Tryd.func105, Tryd.ntmps105
  go_wp2_with (first | (with_reducible refine wpList_alloc_part ?_) | ((with_reducible apply wpList_load_part (w.heap.size + 1)); rfl; exact heap_at _ _ _ (by simp)) | ((with_reducible apply wpList_store_part w.heap.size); rfl; rfl; exact (heap_past _ _ _ (by simp)).trans (heap_at _ _ _ rfl)))
  try rw [setRow_alloc_past _ _ _ _ (by simp), setRow_alloc_at _ _ _ _ _ rfl]
  refine bodyPost_ret_by (results_part rfl _ _ w.heap.size _ _ rfl ((heap_past _ _ _ (by simp)).trans (heap_at _ _ _ rfl))) rfl ⟨rfl, ?_⟩
  exact ((Below.refl _ _).alloc (Nat.le_refl _) _).alloc (by simp) _

def upTo (k : Nat) : Nat → Bool := fun j => decide (j < k)
theorem upTo_zero : upTo 0 = noBytes := by funext j; simp [upTo, noBytes]
theorem upTo_succ (k : Nat) : upd (upTo k) k true = upTo (k + 1) := by funext j; simp only [upd, upTo]; split <;> simp <;> omega
set_option maxHeartbeats 400000 in
theorem any_calls (w : World) :
    Calls Tryd.prog 106 #[] w fun e w' => e = .returned (.agg (partCells false (upTo 256))) ∧ Below w.heap.size w w' := by
  go_enter Tryd.func106, Tryd.ntmps106
  go_wp2_with (first | (with_reducible refine wpList_alloc_part ?_))
  go_loopw [2, 3] (fun _ i wr => ∃ k : Nat, (k : Int) ≤ 256 ∧ i = .int .i64 k ∧ wr = (w.alloc (.cells (partCells false noBytes) 138)).alloc (.cells (partCells false (upTo k)) 138)) (fun _ i _ => 256 - (intOf i).toNat)
  case atStart => exact ⟨0, by omega, rfl, by rw [upTo_zero]⟩
  case round =>
    obtain ⟨k, hk, rfl, rfl⟩ := hrel
    by_cases hlt : (k : Int) < 256
    · have c1 := partCells_set false (upTo k) k true (by omega)
      have c2 := partCells_at false (upTo k) k (by omega)
      go_wp2
      go_roundw
      case rel => exact ⟨k + 1, by omega, by go_num, by rw [upTo_succ]⟩
      case measure => simp [intOf]; omega
    · obtain rfl : k = 256 := by omega
      go_wp2_with (first | ((with_reducible apply wpList_load_part (w.heap.size + 1)); rfl; exact heap_at _ _ _ (by simp)) | ((with_reducible apply wpList_store_part w.heap.size); rfl; rfl; exact (heap_past _ _ _ (by simp)).trans (heap_at _ _ _ rfl)))
      try rw [setRow_alloc_past _ _ _ _ (by simp), setRow_alloc_at _ _ _ _ _ rfl]
      refine bodyPost_ret_by (results_part rfl _ _ w.heap.size _ _ rfl ((heap_past _ _ _ (by simp)).trans (heap_at _ _ _ rfl))) rfl ⟨rfl, ?_⟩
      exact ((Below.refl _ _).alloc (Nat.le_refl _) _).alloc (by simp) _
end Go.Proofs.YtolaecdopfmbgaaDoor.Gl
