/- References in a row of one's own. -/
import Derived.Great.BuildSlice
import Derived.Great.FillDense
import Derived.Maps.AppendAt
import Derived.Test.YtolaecdopfmbgaaDoorW
import Derived.Test.YtolaecdopfmbgaaDoorZ
namespace Go.Proofs.YtolaecdopfmbgaaDoor
open Go.RowKit

def refCells (L : List Rf) : List Value := L.flatMap refV
theorem refCells_length : ∀ {L : List Rf}, allFit L → (refCells L).length = L.length * 34
  | [], _ => rfl
  | r :: L, h => by
    show (refV r ++ refCells L).length = _
    rw [List.length_append, refCells_length fun x hx => h x (List.mem_cons_of_mem _ hx), refV_length (h r (List.mem_cons_self ..)), List.length_cons]; omega
theorem refCells_snoc (L : List Rf) (r : Rf) : refCells (L ++ [r]) = refCells L ++ refV r := by simp [refCells]
theorem refCells_get : ∀ (L : List Rf) (k : Nat) (r : Rf), allFit L → L[k]? = some r → ∀ j, j < 34 → (refCells L)[k * 34 + j]? = (refV r)[j]?
  | [], k, r, _, h, j, hj => by simp at h
  | y :: L, 0, r, hf, h, j, hj => by
    obtain rfl : y = r := by simpa using h
    show (refV y ++ refCells L)[0 * 34 + j]? = _
    rw [List.getElem?_append_left (by rw [refV_length (hf y (List.mem_cons_self ..))]; omega)]; simp
  | y :: L, k + 1, r, hf, h, j, hj => by
    have hy := refV_length (hf y (List.mem_cons_self ..))
    show (refV y ++ refCells L)[(k + 1) * 34 + j]? = _
    rw [List.getElem?_append_right (by rw [hy]; omega), hy, show (k + 1) * 34 + j - 34 = k * 34 + j by omega]
    exact refCells_get L k r (fun x hx => hf x (List.mem_cons_of_mem _ hx)) (by simpa using h) j hj
theorem allFit_snoc {L : List Rf} {r : Rf} (h : allFit L) (hr : r.fits) : allFit (L ++ [r]) := fun x hx => by
  rcases List.mem_append.1 hx with hx | hx
  · exact h x hx
  · obtain rfl : x = r := by simpa using hx
    exact hr
/-- references that the call's own row holds -/
theorem refsIn_of_owns {w : World} {base : Nat} {v : Value} {L : List Rf} (hf : allFit L) (h : w.ownsRow base 41 34 v L.length (refCells L)) : ∃ a cap, v = .slice a L.length cap ∧ L.length ≤ cap ∧ RefsIn w a L := by
  obtain ⟨h1, (⟨rfl, h2⟩ | ⟨g, cap, cur, rfl, h3, h4, h5, h6, h7, h8⟩)⟩ := h
  · have : L = [] := List.eq_nil_of_length_eq_zero h2
    subst this
    exact ⟨none, 0, rfl, Nat.le_refl _, fun k x hx => by simp at hx⟩
  · refine ⟨_, _, rfl, h5, fun k x hx => ⟨hf x (List.mem_of_getElem? hx), g, 0, rfl, fun j v hv => ?_⟩⟩
    have hk := (List.getElem?_eq_some_iff.1 hx).1
    have hj := (List.getElem?_eq_some_iff.1 hv).1
    rw [refV_length (hf x (List.mem_of_getElem? hx))] at hj
    rw [Nat.zero_add, Lib.cell_of_heap h4, ← hv, ← refCells_get L k x hf hx j hj, ← h8, List.getElem?_take, if_pos (by omega), Array.getElem?_toList]

theorem infoB41 : (Tryd.prog.info? 41).map (fun i => (i.zero, i.size, i.bytes)) = some (some (.agg (refV zeroR).toArray), 34, 48) := by kernel_rfl
theorem info_split {t : TypeId} {z : Option Value} {s b : Nat} (h : (Tryd.prog.info? t).map (fun i => (i.zero, i.size, i.bytes)) = some (z, s, b)) : ∃ i, Tryd.prog.info? t = some i ∧ i.zero = z ∧ i.size = s ∧ i.bytes = b := by
  cases hi : Tryd.prog.info? t with
  | none => rw [hi] at h; cases h
  | some i =>
    rw [hi] at h
    simp only [Option.map_some, Option.some.injEq, Prod.mk.injEq] at h
    exact ⟨i, rfl, h.1, h.2.1, h.2.2⟩
theorem zeroR_cells : (Value.agg (refV zeroR).toArray).cells.size = 34 := by show (refV zeroR).toArray.size = 34; simp [refV_length zeroR_fits]
theorem run_buildSlice_ref (w : World) (r : Rf) (hf : r.fits) : (Instr.buildSlice 22 1 #[(0, .agg (refV r).toArray)]).run Tryd.prog w = .ok (.slice (some ⟨w.heap.size, 0, none⟩) 1 1) (w.alloc (.cells (refV r).toArray 41)) := by
  obtain ⟨i0, hi, hz0, hz1, hz2⟩ := info_split infoB41
  have hfill := Great.fill_whole (s := 34) (by omega) [.agg (refV r).toArray] ((Array.range (1 * 34)).map ((Value.agg (refV zeroR).toArray).cells[· % (Value.agg (refV zeroR).toArray).cells.size]!))
    (fun v hv => by simp at hv; subst hv; show (refV r).toArray.size = 34; simp [refV_length hf]) (by simp)
  exact Go.run_buildSlice (P := Tryd.prog) w 22 41 1 #[(0, .agg (refV r).toArray)] (refV r).toArray i0 _ Tryd.underlying22 hi hz0 (by rw [hz1]; decide) (by rw [hz1]; decide)
    (by rw [hz1]; simpa [Value.cells] using hfill)
theorem wpList_buildSlice_ref {ops : Array Oper} {Q : Exit → Act → World → Prop} {a : Act} {w : World} {rest : List Oper} {ty : TypeId} {pos : String} {after : Array Edge} {d x : Tmp} (r : Rf) (hf : r.fits) (hx : a.tmps.getD x undef = .agg (refV r).toArray)
    (h : wpList Tryd.prog ops Q rest (a.put (some d) (.slice (some ⟨w.heap.size, 0, none⟩) 1 1)) (w.alloc (.cells (refV r).toArray 41))) :
    wpList Tryd.prog ops Q ({ dst := some d, op := .buildSlice 22 1 #[(0, .tmp x)], type := ty, pos := pos, after := after, guard := none } :: rest) a w := by
  refine wpList_plain rfl fun K hK => ?_
  have hx' : a.eval (.tmp x) = .agg (refV r).toArray := hx
  have he : (#[(0, Operand.tmp x)] : Array (Nat × Operand)).map (fun (i, x) => (i, a.eval x)) = #[(0, .agg (refV r).toArray)] := by simp [hx']
  simp only [Oper.wp, execOp, he, Sem.run_bind, Sem.run_pure, Result.andThen_ok, run_buildSlice_ref w r hf]
  exact hK _ _ h
theorem newRef_cells (w : World) (r : Rf) : ∀ (j : Nat) (u : Value), (refV r)[j]? = some u → (w.alloc (.cells (refV r).toArray 41)).cell? ((⟨w.heap.size, 0, none⟩ : Addr).add j) = some u := fun j u hj => by
  rw [Addr.add_mid]
  exact rangeAt_new w (refV r) 41 j u hj
theorem refV_ones (r : Rf) : ∀ u ∈ refV r, u.oneCell' = true := fun u hu => Array.all_eq_true_iff_forall_mem.1 (refV_one r) u (by simpa using hu)

theorem wpList_append_ref {ops : Array Oper} {Q : Exit → Act → World → Prop} {a : Act} {rest : List Oper} {ty : TypeId} {pos : String} {after : Array Edge} {d x y : Tmp} (W : World) (base : Nat) (v : Value) (L : List Rf) (r : Rf)
    (hf : allFit L) (hr : r.fits) (hl : L.length < 65) (hb : base ≤ W.heap.size) (hown : W.ownsRow base 41 34 v L.length (refCells L))
    (hx : a.tmps.getD x undef = v) (hy : a.tmps.getD y undef = .slice (some ⟨W.heap.size, 0, none⟩) 1 1)
    (h : ∀ a' cap' w', L.length + 1 ≤ cap' → RefsIn w' a' (L ++ [r]) → w'.ownsRow base 41 34 (.slice a' (L.length + 1) cap') (L ++ [r]).length (refCells (L ++ [r])) → W.grownBy w' v.ownBlock → wpList Tryd.prog ops Q rest (a.put (some d) (.slice a' (L.length + 1) cap')) w') :
    wpList Tryd.prog ops Q ({ dst := some d, op := .call { callee := .builtin .append, args := #[.tmp x, .tmp y], argTypes := #[22, 22] }, type := ty, pos := pos, after := after, guard := none } :: rest) a (W.alloc (.cells (refV r).toArray 41)) := by
  obtain ⟨i0, hi, hz0, hz1, hz2⟩ := info_split infoB41
  refine wpList_append_own_at _ rfl (.tmp x) (.tmp y) 22 rfl base 41 i0 (.agg (refV zeroR).toArray) 34 48 Tryd.underlying22 hi hz0 hz1 hz2 zeroR_cells (by decide) v L.length (refCells L) hx (hown.alloc _) ⟨W.heap.size, 0, none⟩ 1 1 (refV r) hy (by rw [refV_length hr]) (newRef_cells W r) (refV_ones r) (by unfold maxLen; omega) (by omega) (by simp; omega) ?_
  intro v' w' hown' hgrow _ _
  have hown2 : w'.ownsRow base 41 34 v' (L ++ [r]).length (refCells (L ++ [r])) := by rw [refCells_snoc, List.length_append]; exact hown'
  obtain ⟨a', cap', rfl, hc, hri⟩ := refsIn_of_owns (allFit_snoc hf hr) hown2
  rw [List.length_append] at hc
  have e : (L ++ [r]).length = L.length + 1 := by simp
  rw [e] at hown2 ⊢
  refine h a' cap' w' hc hri (by rw [e]; exact hown2) ?_
  exact ⟨hgrow.os, hgrow.tape, hgrow.output, Nat.le_trans (by simp) hgrow.size, fun k hk hne => (hgrow.block k (by simp; omega) hne).trans (Lib.alloc_old W _ _ hk)⟩
/-- what a reading of a text answers -/
def ReadPost (b : List UInt8) (w : World) (e : Ending) (w' : World) : Prop :=
  ∃ A cap, allFit (readL b).1 ∧ e = .returned (.tuple #[.slice A (readL b).1.length cap, .int .i64 (readL b).2]) ∧ (readL b).1.length ≤ cap ∧ RefsIn w' A (readL b).1 ∧ Below w.heap.size w w'
theorem ReadPost.bad {b : List UInt8} {w w' : World} {x : Nat} (h : readL b = ([], x)) (hb : Below w.heap.size w w') : ReadPost b w (.returned (.tuple #[.slice none 0 0, .int .i64 x])) w' := by
  refine ⟨none, 0, ?_, ?_, ?_, ?_, hb⟩
  · rw [h]; intro r hr; cases hr
  · rw [h]; rfl
  · rw [h]; exact Nat.le_refl _
  · rw [h]; intro k r hr; simp at hr
theorem ReadPost.good {b : List UInt8} {w w' : World} {L : List Rf} {v : Value} {base : Nat} (hL : readL b = (L, 0)) (hf : allFit L) (h : w'.ownsRow base 41 34 v L.length (refCells L)) (hb : Below w.heap.size w w') :
    ReadPost b w (.returned (.tuple #[v, .int .i64 0])) w' := by
  obtain ⟨a, cap, rfl, hc, hr⟩ := refsIn_of_owns hf h
  exact ⟨a, cap, by rw [hL]; exact hf, by rw [hL]; rfl, by rw [hL]; exact hc, by rw [hL]; exact hr, hb⟩
end Go.Proofs.YtolaecdopfmbgaaDoor
