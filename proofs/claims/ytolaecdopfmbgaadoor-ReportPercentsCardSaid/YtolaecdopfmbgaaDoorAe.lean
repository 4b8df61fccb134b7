/- References' operations in a fence. No condition. -/
import Derived.TacticsIn
import Derived.OwnWalkIn
import Derived.Test.YtolaecdopfmbgaaDoorAd
namespace Go.Proofs.YtolaecdopfmbgaaDoor
open Go.RowKit
section
variable {F : Fence} {n : Nat} {P : Program} {ops : Array Oper} {Q : Exit → Act → World → Prop} {a : Act} {w w' : World} {rest : List Oper} {o : Oper}
theorem wpListIn_of_value {v : Value} (hg : Region.wanted o (yielded ops a.tmps) = true) (hnc : ∀ c, o.op ≠ .call c) (hnd : ∀ c, o.op ≠ .defer c) (hrun : (execOp a.eval o).run P w = .ok (.value v) w')
    (h : wpListIn F n P ops Q rest (a.put o.dst v) w') : wpListIn F n P ops Q (o :: rest) a w := by
  refine wpListIn_step fun K hK => ?_
  rw [if_pos hg]
  refine ⟨?_, ?_⟩
  · intro f hf
    unfold Oper.about at hf
    cases ho : o.op <;> simp [ho] at hf
    exact absurd ho (hnc _)
  · have e : o.semAt F.round a.eval = execOp a.eval o := by
      cases hr : F.round with
      | none => exact Oper.semAt_none _ _
      | some l => exact Oper.semAt_some _ _ _ hnd
    rw [e, hrun]
    exact hK _ _ h
theorem wpListIn_of_skip (hg : o.guard = none) (hnc : ∀ c, o.op ≠ .call c) (hnd : ∀ c, o.op ≠ .defer c) (hrun : (execOp a.eval o).run P w = .ok .skip w')
    (h : wpListIn F n P ops Q rest (a.put o.dst undef) w') : wpListIn F n P ops Q (o :: rest) a w := by
  refine wpListIn_plain hg fun K hK => ⟨?_, ?_⟩
  · intro f hf
    unfold Oper.about at hf
    cases ho : o.op <;> simp [ho] at hf
    exact absurd ho (hnc _)
  · have e : o.semAt F.round a.eval = execOp a.eval o := by
      cases hr : F.round with
      | none => exact Oper.semAt_none _ _
      | some l => exact Oper.semAt_some _ _ _ hnd
    rw [e, hrun]
    exact hK _ _ h
end
section
variable {F : Fence} {n : Nat} {ops : Array Oper} {Q : Exit → Act → World → Prop} {a : Act} {w : World} {rest : List Oper} {ty : TypeId} {pos : String} {after : Array Edge}
theorem wanted_plain {ops : Array Oper} {o : Oper} {a : Act} (h : o.guard = none) : Region.wanted o (yielded ops a.tmps) = true := by simp [Region.wanted, h]
theorem wpListIn_alloc_ref {d : Option Tmp}
    (h : wpListIn F n Tryd.prog ops Q rest (a.put d (.pointer (some ⟨w.heap.size, 0, none⟩))) (w.alloc (.cells (refV zeroR).toArray 41))) :
    wpListIn F n Tryd.prog ops Q ({ dst := d, op := .alloc 41, type := ty, pos := pos, after := after, guard := none } :: rest) a w := by
  refine wpListIn_of_value (wanted_plain rfl) (fun _ e => by cases e) (fun _ e => by cases e) ?_ h
  simp only [execOp, Instr.alloc, Sem.run_bind, zero41, Result.andThen_ok, newVar, newRow]
  rfl
theorem wpListIn_load_ref {d x : Tmp} (g : Nat) (r : Rf) (hx : a.tmps.getD x undef = .pointer (some ⟨g, 0, none⟩)) (hg : w.rangeAt g 0 (refV r)) (hf : r.fits)
    (h : wpListIn F n Tryd.prog ops Q rest (a.put (some d) (.agg (refV r).toArray)) w) :
    wpListIn F n Tryd.prog ops Q ({ dst := some d, op := .load 41 (.tmp x), type := ty, pos := pos, after := after, guard := none } :: rest) a w := by
  refine wpListIn_of_value (wanted_plain rfl) (fun _ e => by cases e) (fun _ e => by cases e) ?_ h
  have hx' : a.eval (.tmp x) = .pointer (some ⟨g, 0, none⟩) := hx
  have hl := run_loadVar_mid (P := Tryd.prog) w g 0 41 (refV r) _ hg Tryd.underlying41 rfl (by rw [size41, refV_length hf])
  simp only [execOp, hx', Instr.loadAt, Instr.sureAddr, Sem.run_bind, Sem.run_pure, Result.andThen_ok, hl]
theorem wpListIn_load_dig {d x : Tmp} {gd : Option (Nat × Bool)} (b o : Nat) (l : List UInt8) (hx : a.tmps.getD x undef = .pointer (some ⟨b, o, none⟩)) (hc : w.rangeAt b o (digV l)) (hf : l.length = 32)
    (hw : Region.wanted { dst := some d, op := .load 39 (.tmp x), type := ty, pos := pos, after := after, guard := gd } (yielded ops a.tmps) = true)
    (h : wpListIn F n Tryd.prog ops Q rest (a.put (some d) (.agg (digV l).toArray)) w) :
    wpListIn F n Tryd.prog ops Q ({ dst := some d, op := .load 39 (.tmp x), type := ty, pos := pos, after := after, guard := gd } :: rest) a w := by
  refine wpListIn_of_value hw (fun _ e => by cases e) (fun _ e => by cases e) ?_ h
  have hx' : a.eval (.tmp x) = .pointer (some ⟨b, o, none⟩) := hx
  have hl := run_loadVar_mid (P := Tryd.prog) w b o 39 (digV l) _ hc Tryd.underlying39 rfl (by rw [size39, digV_length, hf])
  simp only [execOp, hx', Instr.loadAt, Instr.sureAddr, Sem.run_bind, Sem.run_pure, Result.andThen_ok, hl]
theorem wpListIn_store_ref {d : Option Tmp} {x y : Tmp} (W : World) (r r0 : Rf) (hf : r.fits) (hf0 : r0.fits) (hx : a.tmps.getD x undef = .pointer (some ⟨W.heap.size, 0, none⟩)) (hy : a.tmps.getD y undef = .agg (refV r).toArray)
    (h : wpListIn F n Tryd.prog ops Q rest (a.put d undef) (W.alloc (.cells (refV r).toArray 41))) :
    wpListIn F n Tryd.prog ops Q ({ dst := d, op := .store 41 (.tmp x) (.tmp y), type := ty, pos := pos, after := after, guard := none } :: rest) a (W.alloc (.cells (refV r0).toArray 41)) := by
  refine wpListIn_of_skip rfl (fun _ e => by cases e) (fun _ e => by cases e) ?_ h
  have hx' : a.eval (.tmp x) = .pointer (some ⟨W.heap.size, 0, none⟩) := hx
  have hy' : a.eval (.tmp y) = .agg (refV r).toArray := hy
  have hl := run_storeVar_row (P := Tryd.prog) (W.alloc (.cells (refV r0).toArray 41)) W.heap.size 41 41 (refV r0).toArray (refV r).toArray (heap_alloc_new W _) (by rw [size41]; simp [refV_length hf]) (by simp [refV_length hf, refV_length hf0]) (refV_one r)
  rw [World.setRow_alloc_new] at hl
  simp only [execOp, hx', hy', Instr.storeAt, Instr.sureAddr, Sem.run_bind, Sem.run_pure, Result.andThen_ok, hl]
theorem wpListIn_buildSlice_ref {d x : Tmp} (r : Rf) (hf : r.fits) (hx : a.tmps.getD x undef = .agg (refV r).toArray)
    (h : wpListIn F n Tryd.prog ops Q rest (a.put (some d) (.slice (some ⟨w.heap.size, 0, none⟩) 1 1)) (w.alloc (.cells (refV r).toArray 41))) :
    wpListIn F n Tryd.prog ops Q ({ dst := some d, op := .buildSlice 22 1 #[(0, .tmp x)], type := ty, pos := pos, after := after, guard := none } :: rest) a w := by
  refine wpListIn_of_value (wanted_plain rfl) (fun _ e => by cases e) (fun _ e => by cases e) ?_ h
  have hx' : a.eval (.tmp x) = .agg (refV r).toArray := hx
  have he : (#[(0, Operand.tmp x)] : Array (Nat × Operand)).map (fun (i, x) => (i, a.eval x)) = #[(0, .agg (refV r).toArray)] := by simp [hx']
  simp only [execOp, he, Sem.run_bind, Sem.run_pure, Result.andThen_ok, run_buildSlice_ref w r hf]
theorem wpListIn_append_ref {d x y : Tmp} (W : World) (base : Nat) (v : Value) (L : List Rf) (r : Rf)
    (hf : allFit L) (hr : r.fits) (hl : L.length < 65) (hb : base ≤ W.heap.size) (hown : W.ownsRow base 41 34 v L.length (refCells L))
    (hx : a.tmps.getD x undef = v) (hy : a.tmps.getD y undef = .slice (some ⟨W.heap.size, 0, none⟩) 1 1)
    (h : ∀ a' cap' w', L.length + 1 ≤ cap' → RefsIn w' a' (L ++ [r]) → w'.ownsRow base 41 34 (.slice a' (L.length + 1) cap') (L ++ [r]).length (refCells (L ++ [r])) → W.grownBy w' v.ownBlock → wpListIn F n Tryd.prog ops Q rest (a.put (some d) (.slice a' (L.length + 1) cap')) w') :
    wpListIn F n Tryd.prog ops Q ({ dst := some d, op := .call { callee := .builtin .append, args := #[.tmp x, .tmp y], argTypes := #[22, 22] }, type := ty, pos := pos, after := after, guard := none } :: rest) a (W.alloc (.cells (refV r).toArray 41)) := by
  obtain ⟨i0, hi, hz0, hz1, hz2⟩ := info_split infoB41
  refine wpListIn_append_own _ rfl (.tmp x) (.tmp y) 22 rfl base 41 i0 (.agg (refV zeroR).toArray) 34 48 Tryd.underlying22 hi hz0 hz1 hz2 zeroR_cells (by decide) v L.length (refCells L) hx (hown.alloc _) ⟨W.heap.size, 0, none⟩ 1 1 (refV r) hy (by rw [refV_length hr]) (newRef_cells W r) (refV_ones r) (by unfold maxLen; omega) (by omega) (by simp; omega) ?_
  intro v' w' hown' hgrow _
  have hown2 : w'.ownsRow base 41 34 v' (L ++ [r]).length (refCells (L ++ [r])) := by rw [refCells_snoc, List.length_append]; exact hown'
  obtain ⟨a', cap', rfl, hc, hri⟩ := refsIn_of_owns (allFit_snoc hf hr) hown2
  rw [List.length_append] at hc
  have e : (L ++ [r]).length = L.length + 1 := by simp
  rw [e] at hown2 ⊢
  refine h a' cap' w' hc hri (by rw [e]; exact hown2) ?_
  exact ⟨hgrow.os, hgrow.tape, hgrow.output, Nat.le_trans (by simp) hgrow.size, fun k hk hne => (hgrow.block k (by simp; omega) hne).trans (Lib.alloc_old W _ _ hk)⟩
end
/-- two results that lie in boxes of one cell -/
theorem results_boxes {fn : Func} {p q : Tmp} {t u : TypeId} (h : fn.results = #[.cell p t, .cell q u]) (tmps : Array Value) (w : World) (g k : Nat) (v x : Value) (t' u' : TypeId)
    (hp : tmps.getD p undef = .pointer (some ⟨g, 0, none⟩)) (hq : tmps.getD q undef = .pointer (some ⟨k, 0, none⟩)) (hg : w.heap[g]? = some (.cells #[v] t')) (hk : w.heap[k]? = some (.cells #[x] u'))
    (ha : ∀ w, (isAgg t).run Tryd.prog w = .ok false w) (hs : ∀ w, (sizeOf t).run Tryd.prog w = .ok 1 w) (ha2 : ∀ w, (isAgg u).run Tryd.prog w = .ok false w) (hs2 : ∀ w, (sizeOf u).run Tryd.prog w = .ok 1 w) :
    (results fn tmps).run Tryd.prog w = .ok (.tuple #[v, x]) w := by
  have hp' : tmps[p]?.getD undef = .pointer (some ⟨g, 0, none⟩) := by simpa using hp
  have hq' : tmps[q]?.getD undef = .pointer (some ⟨k, 0, none⟩) := by simpa using hq
  have hc : w.cell? ⟨g, 0, none⟩ = some v := cell_of_one' hg
  have hd : w.cell? ⟨k, 0, none⟩ = some x := cell_of_one' hk
  simp [results, h, hp', hq', asAddr, loadVar, ha, hs, hc, ha2, hs2, hd]
end Go.Proofs.YtolaecdopfmbgaaDoor
