/- The law LineReplies returns true. Condition: data of at most 1048576 bytes, names of at most 4194304 bytes in all; what lies in variables. -/
import Derived.Test.YtjplfkcelkijfaaGreatDoorVi
namespace Go.Proofs.YtjplfkcelkijfaaGreatDoor
open Go.RowKit
attribute [local irreducible] wpQuiet

set_option maxHeartbeats 2000000 in
set_option maxRecDepth 100000 in
theorem law_replies (r : RepV) (A : Option Addr) (c1 : Nat) (A2 : Option Addr) (c2 : Nat) (w : World) (h : RepOk w r A c1 A2 c2) (hE : LEnv w) :
    Calls Tryz.prog 4 #[.agg (repS r A c1 A2 c2).toArray] w fun e w' => e = .returned (.bool true) ∧ Below w.heap.size w w' := by
  have hb0 : Below w.heap.size w (w.alloc (.cells (repS r A c1 A2 c2).toArray 37)) := (Below.refl _ _).alloc (Nat.le_refl _) _
  have h0 := h.below hb0
  have hE0 := hE.below hb0
  have hrg := rangeAt_new w (repS r A c1 A2 c2) 37
  go_enter Tryz.func4, Tryz.ntmps4
  go_upto_region 1 with (fail)
  generalize w.alloc (.cells (repS r A c1 A2 c2).toArray 37) = w0 at *
  obtain ⟨fs, hu⟩ := Go.Proofs.YtjplfkcelkijfaaGreatDoor.u37
  have hld : ∀ W, Below w0.heap.size w0 W → (loadVar 37 ⟨w.heap.size, 0, none⟩).run Tryz.prog W = .ok (.agg (repS r A c1 A2 c2).toArray) W := fun W h =>
    run_loadVar_mid W w.heap.size 0 37 _ _ (rangeAt_below hrg h) hu rfl (by rw [size37, repV_length _ _ _ h0.fits.2.2.2.2])
  refine wp_region_below (by kernel_rfl) ?_
  refine ql 37 (.tmp 1) rfl w.heap.size 0 _ rfl hld (by kernel_rfl) ?_
  try simp only [Act.put, List.setIfInBounds_toArray, List.set_cons_zero, List.set_cons_succ]
  refine qc (.string ⟨(replyL r).toArray⟩) 11 #[.agg (repS r A c1 A2 c2).toArray] (by kernel_rfl) (fun W => by go_simp) (fun W h => grown_call h (reply_calls r A c1 A2 c2 W (h0.below h) (hE0.below h).env.1)) ?_
  try simp only [Act.put, List.setIfInBounds_toArray, List.set_cons_zero, List.set_cons_succ]
  refine ql 37 (.tmp 1) rfl w.heap.size 0 _ rfl hld (by kernel_rfl) ?_
  try simp only [Act.put, List.setIfInBounds_toArray, List.set_cons_zero, List.set_cons_succ]
  refine qc (.string ⟨(replyL r).toArray⟩) 12 #[.agg (repS r A c1 A2 c2).toArray] (by kernel_rfl) (fun W => by go_simp) (fun W h => grown_call h (refReply_calls r A c1 A2 c2 W (h0.below h))) ?_
  try simp only [Act.put, List.setIfInBounds_toArray, List.set_cons_zero, List.set_cons_succ]
  refine qv (.bool true) (by kernel_rfl) (fun W => by go_simp) ?_
  try simp only [Act.put, List.setIfInBounds_toArray, List.set_cons_zero, List.set_cons_succ]
  refine qv (.bool true) (by kernel_rfl) (fun W => rfl) ?_
  try simp only [Act.put, List.setIfInBounds_toArray, List.set_cons_zero, List.set_cons_succ]
  refine qc (.bool true) 10 #[] (by kernel_rfl) (fun W => by go_simp) (fun W h => grown_call h (lives_calls W (hE0.below h))) ?_
  try simp only [Act.put, List.setIfInBounds_toArray, List.set_cons_zero, List.set_cons_succ]
  refine qv (.bool true) (by kernel_rfl) (fun W => rfl) ?_
  try simp only [Act.put, List.setIfInBounds_toArray, List.set_cons_zero, List.set_cons_succ]
  refine qv (.bool true) (by kernel_rfl) (fun W => rfl) ?_
  try simp only [Act.put, List.setIfInBounds_toArray, List.set_cons_zero, List.set_cons_succ]
  refine wpQuiet_nil fun w1 hb1 => ?_
  have HB := Lib.hid (hb0.trans (hb1.mono hb0.size))
  clear hld hrg hu h h0 hE hE0 hb0 hb1
  go_wp2_with fail
  go_ret
  exact ⟨rfl, HB.out⟩
end Go.Proofs.YtjplfkcelkijfaaGreatDoor
