/- The law LineTexts returns true. Condition: name and data of at most 1048576 bytes. -/
import Derived.Test.YtjplfkcelkijfaaDoorWq
namespace Go.Proofs.YtjplfkcelkijfaaDoor
open Go.RowKit

set_option maxHeartbeats 2000000 in
set_option maxRecDepth 100000 in
theorem law_texts (x : OpV) (A : Option Addr) (cap : Nat) (w : World) (hx : x.fits) (hA : CellsIn w A (Lib.byteCells x.b)) (hl : x.b.length ≤ 1048576) (ht : x.t.length ≤ 1048576) (hE : LEnv w) :
    Calls Tryd.prog 3 #[.agg (opV x (.slice A x.b.length cap)).toArray] w fun e w' => e = .returned (.bool true) ∧ Below w.heap.size w w' := by
  have hb0 : Below w.heap.size w (w.alloc (.cells (opV x (.slice A x.b.length cap)).toArray 26)) := (Below.refl _ _).alloc (Nat.le_refl _) _
  have hA0 := hA.below hb0
  have hE0 := hE.below hb0
  have hrg := rangeAt_new w (opV x (.slice A x.b.length cap)) 26
  go_enter Tryd.func3, Tryd.ntmps3
  go_upto_region 1 with (fail)
  generalize w.alloc (.cells (opV x (.slice A x.b.length cap)).toArray 26) = w0 at *
  obtain ⟨fs, hu⟩ := u26
  have hld : ∀ W, Below w0.heap.size w0 W → (loadVar 26 ⟨w.heap.size, 0, none⟩).run Tryd.prog W = .ok (.agg (opV x (.slice A x.b.length cap)).toArray) W := fun W h =>
    run_loadVar_mid W w.heap.size 0 26 _ _ (rangeAt_below hrg h) hu rfl (by rw [size26, opV_length _ _ hx.2.2.2.2])
  refine wp_region_below (by kernel_rfl) ?_
  refine ql 26 (.tmp 1) rfl w.heap.size 0 _ rfl hld rfl ?_
  try simp only [Act.put, List.setIfInBounds_toArray, List.set_cons_zero, List.set_cons_succ]
  refine qc (.string ⟨(textL x).toArray⟩) 5 #[.agg (opV x (.slice A x.b.length cap)).toArray] rfl (fun W => by go_simp) (fun W h => grown_call h (text_calls x A cap W hx (hA0.below h) hl ht (hE0.below h).env.1)) ?_
  try simp only [Act.put, List.setIfInBounds_toArray, List.set_cons_zero, List.set_cons_succ]
  refine ql 26 (.tmp 1) rfl w.heap.size 0 _ rfl hld rfl ?_
  try simp only [Act.put, List.setIfInBounds_toArray, List.set_cons_zero, List.set_cons_succ]
  refine qc (.string ⟨(textL x).toArray⟩) 6 #[.agg (opV x (.slice A x.b.length cap)).toArray] rfl (fun W => by go_simp) (fun W h => grown_call h (refText_calls x A cap W hx (hA0.below h) hl ht)) ?_
  try simp only [Act.put, List.setIfInBounds_toArray, List.set_cons_zero, List.set_cons_succ]
  refine qv (.bool true) rfl (fun W => by go_simp) ?_
  try simp only [Act.put, List.setIfInBounds_toArray, List.set_cons_zero, List.set_cons_succ]
  refine qv (.bool true) rfl (fun W => rfl) ?_
  try simp only [Act.put, List.setIfInBounds_toArray, List.set_cons_zero, List.set_cons_succ]
  refine qc (.bool true) 7 #[] rfl (fun W => by go_simp) (fun W h => grown_call h (lives_calls W (hE0.below h))) ?_
  try simp only [Act.put, List.setIfInBounds_toArray, List.set_cons_zero, List.set_cons_succ]
  refine qv (.bool true) rfl (fun W => rfl) ?_
  try simp only [Act.put, List.setIfInBounds_toArray, List.set_cons_zero, List.set_cons_succ]
  refine qv (.bool true) rfl (fun W => rfl) ?_
  try simp only [Act.put, List.setIfInBounds_toArray, List.set_cons_zero, List.set_cons_succ]
  refine wpQuiet_nil fun w1 hb1 => ?_
  have HB := Lib.hid (hb0.trans (hb1.mono hb0.size))
  clear hld hrg hu hA hA0 hE hE0 hb0 hb1
  go_wp2_with fail
  go_ret
  exact ⟨rfl, HB.out⟩
end Go.Proofs.YtjplfkcelkijfaaDoor
