/- One operation by its run, in a fence; a part's operations in a fence. No condition. -/
import Derived.TacticsIn
import Derived.Test.YtolaecdopfmbgaaDoorGlC
namespace Go.Proofs.YtolaecdopfmbgaaDoor.Gl
open Go.RowKit
section
variable {F : Fence} {n : Nat} {P : Program} {ops : Array Oper} {Q : Exit → Act → World → Prop} {a : Act} {w w' : World} {rest : List Oper} {o : Oper}
theorem wpListIn_of_value {v : Value} (hg : o.guard = none) (hnc : ∀ c, o.op ≠ .call c) (hnd : ∀ c, o.op ≠ .defer c) (hrun : (execOp a.eval o).run P w = .ok (.value v) w')
    (h : wpListIn F n P ops Q rest (a.put o.dst v) w') : wpListIn F n P ops Q (o :: rest) a w := by
  refine wpListIn_plain hg fun K hK => ⟨?_, ?_⟩
  · intro f hf
    unfold Oper.about at hf
    cases ho : o.op <;> simp [ho] at hf
    exact absurd ho (hnc _)
  · have e : o.semAt F.round a.eval = execOp a.eval o := by
      cases hr : F.round with
      | none => exact Oper.semAt_none _ _
      | some l => exact Oper.semAt_some _ _ _ hnd
    rw [e, hrun]
    exact hK _ _ h
theorem wpListIn_of_skip (hg : o.guard = none) (hnc : ∀ c, o.op ≠ .call c) (hnd : ∀ c, o.op ≠ .defer c) (hrun : (execOp a.eval o).run P w = .ok .skip w')
    (h : wpListIn F n P ops Q rest (a.put o.dst undef) w') : wpListIn F n P ops Q (o :: rest) a w := by
  refine wpListIn_plain hg fun K hK => ⟨?_, ?_⟩
  · intro f hf
    unfold Oper.about at hf
    cases ho : o.op <;> simp [ho] at hf
    exact absurd ho (hnc _)
  · have e : o.semAt F.round a.eval = execOp a.eval o := by
      cases hr : F.round with
      | none => exact Oper.semAt_none _ _
      | some l => exact Oper.semAt_some _ _ _ hnd
    rw [e, hrun]
    exact hK _ _ h
end
section
variable {F : Fence} {n : Nat} {ops : Array Oper} {Q : Exit → Act → World → Prop} {a : Act} {w : World} {rest : List Oper} {ty : TypeId} {pos : String} {after : Array Edge}
theorem wpListIn_alloc_part {d : Option Tmp}
    (h : wpListIn F n Tryd.prog ops Q rest (a.put d (.pointer (some ⟨w.heap.size, 0, none⟩))) (w.alloc (.cells (partCells false noBytes) 138))) :
    wpListIn F n Tryd.prog ops Q ({ dst := d, op := .alloc 138, type := ty, pos := pos, after := after, guard := none } :: rest) a w := by
  refine wpListIn_of_value rfl (fun _ e => by cases e) (fun _ e => by cases e) ?_ h
  simp only [execOp, Instr.alloc, Sem.run_bind, zero138, Result.andThen_ok, newVar, newRow]
  rfl
theorem wpListIn_load_part {d x : Tmp} {m : Bool} {f : Nat → Bool} (g : Nat) (hx : a.tmps.getD x undef = .pointer (some ⟨g, 0, none⟩)) (hg : w.heap[g]? = some (.cells (partCells m f) 138))
    (h : wpListIn F n Tryd.prog ops Q rest (a.put (some d) (.agg (partCells m f))) w) :
    wpListIn F n Tryd.prog ops Q ({ dst := some d, op := .load 138 (.tmp x), type := ty, pos := pos, after := after, guard := none } :: rest) a w := by
  refine wpListIn_of_value rfl (fun _ e => by cases e) (fun _ e => by cases e) ?_ h
  have hx' : a.eval (.tmp x) = .pointer (some ⟨g, 0, none⟩) := hx
  have hl := run_loadVar_row (P := Tryd.prog) w g 138 138 (partCells m f) (0, 0) _ hg Tryd.underlying138 rfl (size138 m f)
  simp only [execOp, hx', Instr.loadAt, Instr.sureAddr, Sem.run_bind, Sem.run_pure, Result.andThen_ok, hl]
theorem wpListIn_store_part {d : Option Tmp} {x y : Tmp} {m : Bool} {f : Nat → Bool} {m0 : Bool} {f0 : Nat → Bool} (g : Nat) (hx : a.tmps.getD x undef = .pointer (some ⟨g, 0, none⟩)) (hy : a.tmps.getD y undef = .agg (partCells m f))
    (hg : w.heap[g]? = some (.cells (partCells m0 f0) 138))
    (h : wpListIn F n Tryd.prog ops Q rest (a.put d undef) (w.setRow g (partCells m f))) :
    wpListIn F n Tryd.prog ops Q ({ dst := d, op := .store 138 (.tmp x) (.tmp y), type := ty, pos := pos, after := after, guard := none } :: rest) a w := by
  refine wpListIn_of_skip rfl (fun _ e => by cases e) (fun _ e => by cases e) ?_ h
  have hx' : a.eval (.tmp x) = .pointer (some ⟨g, 0, none⟩) := hx
  have hy' : a.eval (.tmp y) = .agg (partCells m f) := hy
  have hl := run_storeVar_row (P := Tryd.prog) w g 138 138 (partCells m0 f0) (partCells m f) hg (size138 m f) (by rw [partCells_size, partCells_size]) (partCells_one m f)
  simp only [execOp, hx', hy', Instr.storeAt, Instr.sureAddr, Sem.run_bind, Sem.run_pure, Result.andThen_ok, hl]
theorem built38m : Tryd.prog.built 138 [(0, .bool true)] = some (partCells true noBytes) := by kernel_rfl
theorem wpListIn_build_many {d : Tmp}
    (h : wpListIn F n Tryd.prog ops Q rest (a.put (some d) (.agg (partCells true noBytes))) w) :
    wpListIn F n Tryd.prog ops Q ({ dst := some d, op := .build 138 #[(0, .const (.bool true))], type := ty, pos := pos, after := after, guard := none } :: rest) a w := by
  refine wpListIn_of_value rfl (fun _ e => by cases e) (fun _ e => by cases e) ?_ h
  have hl := run_build (P := Tryd.prog) w 138 #[(0, .bool true)] (partCells true noBytes) built38m
  have he : (#[(0, Operand.const (.bool true))] : Array (Nat × Operand)).map (fun (i, x) => (i, a.eval x)) = #[(0, .bool true)] := by simp [Act.eval]
  simp only [execOp, he, Sem.run_bind, Sem.run_pure, Result.andThen_ok, hl]
end
end Go.Proofs.YtolaecdopfmbgaaDoor.Gl
