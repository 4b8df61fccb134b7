/- The cells of a part of a pattern (a bool and a set of 256 bytes), and the operations that lay, read and write one whole. No condition. -/
import Derived.WalkKit
import Derived.OwnWalk
import Derived.BigQuiet
import Derived.Deep.QuietTactic
import Derived.Deep.WholeRow
import Derived.WalkSpells
import Derived.WalkLawsBesides
import Derived.Lib.Hide
import Derived.Deep.DeepFit
import Derived.Test.YtolaecdopfmbgaaDoorShelf
namespace Go.Proofs.YtolaecdopfmbgaaDoor.Gl
open Go.RowKit

theorem ret_int {k : IntKind} {a b : Int} (h : a = b) : Ending.returned (.int k a) = .returned (.int k b) := by rw [h]
theorem ret_bool {a b : Bool} (h : a = b) : Ending.returned (.bool a) = .returned (.bool b) := by rw [h]

/-- the cells of a part -/
def partCells (m : Bool) (f : Nat → Bool) : Array Value := #[.bool m] ++ Array.ofFn (n := 256) fun i => Value.bool (f i.val)
theorem partCells_size (m : Bool) (f : Nat → Bool) : (partCells m f).size = 257 := by simp [partCells]
theorem partCells_zero (m : Bool) (f : Nat → Bool) : (partCells m f)[0]? = some (.bool m) := by simp [partCells]
theorem partCells_at (m : Bool) (f : Nat → Bool) (i : Nat) (h : i < 256) : (partCells m f)[1 + i]? = some (.bool (f i)) := by
  simp only [partCells]
  rw [Array.getElem?_append_right (by simp)]
  simp [h]
def upd (f : Nat → Bool) (i : Nat) (b : Bool) : Nat → Bool := fun j => if j = i then b else f j
theorem partCells_set (m : Bool) (f : Nat → Bool) (i : Nat) (b : Bool) (h : i < 256) : (partCells m f).setIfInBounds (1 + i) (.bool b) = partCells m (upd f i b) := by
  apply Array.ext_getElem?
  intro j
  rw [Array.getElem?_setIfInBounds, partCells_size]
  by_cases hj : 1 + i = j
  · subst hj
    rw [if_pos rfl, if_pos (by omega), partCells_at _ _ _ h]
    simp [upd]
  · rw [if_neg hj]
    rcases Nat.lt_or_ge j 257 with h2 | h2
    · cases j with
      | zero => rw [partCells_zero, partCells_zero]
      | succ j =>
        rw [Nat.add_comm j 1, partCells_at _ _ _ (by omega), partCells_at _ _ _ (by omega)]
        simp [upd, show j ≠ i by omega]
    · rw [Array.getElem?_eq_none (by rw [partCells_size]; omega), Array.getElem?_eq_none (by rw [partCells_size]; omega)]
theorem partCells_one (m : Bool) (f : Nat → Bool) : (partCells m f).all (·.oneCell') = true := by
  simp only [partCells, Array.all_eq_true]
  intro i h
  rw [Array.getElem_append]
  split
  · rename_i h1
    have : i = 0 := by simp at h1; omega
    subst this
    rfl
  · simp [Value.oneCell']

def noBytes : Nat → Bool := fun _ => false
theorem info138 : (Tryd.prog.info? 138).map (fun i => (i.zero, i.size)) = some (some (.agg (partCells false noBytes)), 257) := by kernel_rfl
theorem zero138 : ∀ w, (zeroValue 138).run Tryd.prog w = .ok (.agg (partCells false noBytes)) w := (zero_of_info info138).1
theorem size138 (m : Bool) (f : Nat → Bool) : (Tryd.prog.info? 138).map (·.size) = some (partCells m f).size := by rw [partCells_size]; exact (zero_of_info info138).2

/-- a new part -/
theorem wpList_alloc_part {ops : Array Oper} {rest : List Oper} {a : Act} {w : World} {Q : Exit → Act → World → Prop} {d : Option Tmp} {ty : TypeId} {pos : String} {after : Array Edge}
    (h : wpList Tryd.prog ops Q rest (a.put d (.pointer (some ⟨w.heap.size, 0, none⟩))) (w.alloc (.cells (partCells false noBytes) 138))) :
    wpList Tryd.prog ops Q ({ dst := d, op := .alloc 138, type := ty, pos := pos, after := after, guard := none } :: rest) a w := by
  refine wpList_plain rfl fun K hK => ?_
  simp only [Oper.wp, execOp, Instr.alloc, Sem.run_bind, zero138, Result.andThen_ok, newVar, newRow]
  exact hK _ _ h


theorem partCells_congr (m : Bool) (f g : Nat → Bool) (h : ∀ i, i < 256 → f i = g i) : partCells m f = partCells m g := by
  have e : (fun i : Fin 256 => Value.bool (f i.val)) = fun i : Fin 256 => Value.bool (g i.val) := funext fun i => by rw [h i.val i.isLt]
  simp only [partCells, e]
attribute [irreducible] partCells
theorem setRow_alloc_at (w : World) (c c' : Array Value) (t : TypeId) (n : Nat) (hn : n = w.heap.size) : (w.alloc (.cells c t)).setRow n c' = w.alloc (.cells c' t) := by
  subst hn; exact World.setRow_alloc_new w c c' t
theorem setRow_alloc_past (w : World) (o : Obj) (n : Nat) (c' : Array Value) (hn : n < w.heap.size) : (w.alloc o).setRow n c' = (w.setRow n c').alloc o := by
  simp only [World.setRow, World.alloc]
  congr 1
  apply Array.ext_getElem?
  intro i
  rw [Array.getElem?_modify, Array.getElem?_push, Array.getElem?_push]
  simp only [Array.size_modify]
  by_cases h1 : i = w.heap.size
  · rw [if_pos h1, if_neg (by omega)]; simp [h1]
  · simp only [if_neg h1, Array.getElem?_modify]
theorem setRow_drew (w : World) (n : Nat) (c' : Array Value) : w.drew.setRow n c' = (w.setRow n c').drew := rfl
theorem heap_at (w : World) (o : Obj) (n : Nat) (hn : n = w.heap.size) : (w.alloc o).heap[n]? = some o := by subst hn; exact heap_alloc_new w o
theorem heap_past (w : World) (o : Obj) (n : Nat) (hn : n < w.heap.size) : (w.alloc o).heap[n]? = w.heap[n]? := by
  rw [heap_alloc_old]; exact hn

/-- a part is read whole -/
theorem wpList_load_part {ops : Array Oper} {rest : List Oper} {a : Act} {w : World} {Q : Exit → Act → World → Prop} {d x : Tmp} {ty : TypeId} {pos : String} {after : Array Edge}
    {m : Bool} {f : Nat → Bool} (g : Nat) (hx : a.tmps.getD x undef = .pointer (some ⟨g, 0, none⟩)) (hg : w.heap[g]? = some (.cells (partCells m f) 138))
    (h : wpList Tryd.prog ops Q rest (a.put (some d) (.agg (partCells m f))) w) :
    wpList Tryd.prog ops Q ({ dst := some d, op := .load 138 (.tmp x), type := ty, pos := pos, after := after, guard := none } :: rest) a w := by
  exact wpList_load_row rfl 138 (.tmp x) rfl g hx 138 (partCells m f) (0, 0) _ hg Tryd.underlying138 rfl (size138 m f) h
/-- a part is written whole -/
theorem wpList_store_part {ops : Array Oper} {rest : List Oper} {a : Act} {w : World} {Q : Exit → Act → World → Prop} {d : Option Tmp} {x y : Tmp} {ty : TypeId} {pos : String} {after : Array Edge}
    {m : Bool} {f : Nat → Bool} {m0 : Bool} {f0 : Nat → Bool} (g : Nat) (hx : a.tmps.getD x undef = .pointer (some ⟨g, 0, none⟩)) (hy : a.tmps.getD y undef = .agg (partCells m f))
    (hg : w.heap[g]? = some (.cells (partCells m0 f0) 138))
    (h : wpList Tryd.prog ops Q rest (a.put d undef) (w.setRow g (partCells m f))) :
    wpList Tryd.prog ops Q ({ dst := d, op := .store 138 (.tmp x) (.tmp y), type := ty, pos := pos, after := after, guard := none } :: rest) a w :=
  wpList_store_row rfl 138 (.tmp x) (.tmp y) rfl g (partCells m f) hx hy 138 (partCells m0 f0) hg (size138 m f) (by rw [partCells_size, partCells_size]) (partCells_one m f) h
theorem results_part {fn : Func} {p : Tmp} (h : fn.results = #[.cell p 138]) (tmps : Array Value) (w : World) (g : Nat) (m : Bool) (f : Nat → Bool)
    (hp : tmps.getD p undef = .pointer (some ⟨g, 0, none⟩)) (hg : w.heap[g]? = some (.cells (partCells m f) 138)) : (results fn tmps).run Tryd.prog w = .ok (.agg (partCells m f)) w := by
  exact results_cell_row h tmps w g 138 (partCells m f) (0, 0) _ hp hg Tryd.underlying138 rfl (size138 m f)
end Go.Proofs.YtolaecdopfmbgaaDoor.Gl
