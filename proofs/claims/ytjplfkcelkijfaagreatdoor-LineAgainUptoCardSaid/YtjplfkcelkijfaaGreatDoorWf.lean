/- line.shapes: the words and the parts of the kinds. No condition. -/
import Derived.Great.BuildSlice
import Derived.Test.YtjplfkcelkijfaaGreatDoorWe
namespace Go.Proofs.YtjplfkcelkijfaaGreatDoor
open Go.RowKit

/-- a value reads as a row of ints -/
def IntsIn (w : World) (v : Value) (zs : List Int) : Prop := ∃ A cap, v = .slice A zs.length cap ∧ CellsIn w A (zs.map (Value.int .i64))
theorem IntsIn.below {w w' : World} {v : Value} {zs : List Int} (h : IntsIn w v zs) (hb : Below w.heap.size w w') : IntsIn w' v zs := by
  obtain ⟨A, cap, e, hc⟩ := h
  exact ⟨A, cap, e, hc.below hb⟩
theorem IntsIn.nil (w : World) : IntsIn w (.slice none 0 0) [] := ⟨none, 0, rfl, fun k v hk => by simp at hk⟩
/-- rows of ints that lie -/
def AllIn (w : World) (l : List (Value × List Int)) : Prop := ∀ x ∈ l, IntsIn w x.1 x.2
theorem AllIn.cons {w w' : World} {l : List (Value × List Int)} {v : Value} {zs : List Int} (h : AllIn w l) (hb : Below w.heap.size w w') (hv : IntsIn w' v zs) : AllIn w' ((v, zs) :: l) := fun x hx => by
  rcases List.mem_cons.1 hx with rfl | hx
  · exact hv
  · exact (h x hx).below hb
theorem info3 : (Tryz.prog.info? 3).map (·.size) = some 1 := by kernel_rfl
theorem zero3 : ((Tryz.prog.info? 3).bind (·.zero)).isSome = true := by kernel_rfl
theorem under37 : Tryz.prog.underlying 47 = some (.slice 3) := by kernel_rfl
/-- a literal of ints: where it lies doesn't matter -/
theorem wpList_ints {ops : Array Oper} {rest : List Oper} {a : Act} {w : World} {Q : Exit → Act → World → Prop} {d : Option Tmp} {len : Nat} {parts : Array (Nat × Operand)} {ty : TypeId} {pos : String} {after : Array Edge} (zs : List Int) (hlen : len = zs.length) (hpos : 0 < len) (hsmall : len ≤ 2 ^ 24)
    (hparts : parts.toList = (zs.zipIdx 0).map fun x => (x.2, Operand.const (Value.int .i64 x.1)))
    (h : ∀ g W, IntsIn W (.slice (some ⟨g, 0, none⟩) len len) zs → Below w.heap.size w W → wpList Tryz.prog ops Q rest (a.put d (.slice (some ⟨g, 0, none⟩) len len)) W) :
    wpList Tryz.prog ops Q ({ dst := d, op := .buildSlice 47 len parts, type := ty, pos := pos, after := after, guard := none } :: rest) a w := by
  refine wpList_buildFlat rfl 47 3 len parts rfl .i64 zs under37 info3 zero3 hlen hpos hsmall hparts ?_
  refine h _ _ ?_ ((Below.refl _ _).alloc (Nat.le_refl _) _)
  subst hlen
  exact ⟨_, _, rfl, cellsIn_of_range (rangeAt_new w (zs.map (Value.int .i64)) 3)⟩

/-- the cells of the words, each with a value beside it -/
def shapeV (ws : List (List UInt8)) (vs : List Value) : List Value := (ws.zip vs).flatMap fun x => [.string ⟨x.1.toArray⟩, x.2]
def zeroS : Array Value := (List.replicate 21 [Value.string ⟨#[]⟩, Value.slice none 0 0]).flatten.toArray
theorem lt_of_block {w : World} {b : Nat} {o : Obj} (h : w.heap[b]? = some o) : b < w.heap.size := (Array.getElem?_eq_some_iff.1 h).1
theorem no_int : ∀ v ∈ zeroS.toList, ∀ z : Int, v ≠ .int .i64 z := by intro v hv z e; subst e; simp [zeroS] at hv
theorem IntsIn.setRow {W : World} {v : Value} {zs : List Int} {b : Nat} {cs : Array Value} (h : IntsIn W v zs) (hb : W.heap[b]? = some (.cells zeroS 50)) : IntsIn (W.setRow b cs) v zs := by
  obtain ⟨A, cap, e, hc⟩ := h
  refine ⟨A, cap, e, fun k u hk => ?_⟩
  obtain ⟨g, o, ha, hcell⟩ := hc k u hk
  refine ⟨g, o, ha, ?_⟩
  have hne : g ≠ b := fun eg => by
    subst eg
    rw [Lib.cell_of_heap hb] at hcell
    obtain ⟨z, hz⟩ : ∃ z : Int, u = .int .i64 z := by
      rw [List.getElem?_map] at hk
      obtain ⟨z, _, hz⟩ := Option.map_eq_some_iff.1 hk
      exact ⟨z, hz.symm⟩
    exact no_int u (by rw [← Array.getElem?_toList] at hcell; exact List.mem_of_getElem? hcell) z hz
  rw [cell_setRow_other _ _ _ _ hne]; exact hcell
theorem u40 : Tryz.prog.underlying 50 = some (.array 21 49) := by kernel_rfl
theorem size50 : (Tryz.prog.info? 50).map (·.size) = some 42 := by kernel_rfl
theorem wpList_store_42 {ops : Array Oper} {rest : List Oper} {a : Act} {w : World} {Q : Exit → Act → World → Prop} {d : Option Tmp} {x y : Tmp} {ty : TypeId} {pos : String} {after : Array Edge}
    (g : Nat) (cs : List Value) (hf : cs.length = 42) (h1 : cs.toArray.all (·.oneCell') = true) (hx : a.tmps.getD x undef = .pointer (some ⟨g, 0, none⟩)) (hy : a.tmps.getD y undef = .agg cs.toArray)
    (hg : w.heap[g]? = some (.cells zeroS 50))
    (h : wpList Tryz.prog ops Q rest (a.put d undef) (w.setRow g cs.toArray)) :
    wpList Tryz.prog ops Q ({ dst := d, op := .store 50 (.tmp x) (.tmp y), type := ty, pos := pos, after := after, guard := none } :: rest) a w :=
  wpList_store_row rfl 50 (.tmp x) (.tmp y) rfl g cs.toArray hx hy 50 zeroS hg (by rw [size50]; simp [hf]) (by simp [hf, zeroS]) h1 h
theorem castT : (partsT.map fun ps => ps.map fun (p : Nat) => (p : Int)) = [[], [], [0, 1, 5], [0, 4], [0], [5], [4], [4], [4, 1, 2], [3, 4], [3], [3], [3, 2], [4], [], [], [], [], [], [2], [2, 5]] := rfl
theorem allIn_at {w : World} {vs : List Value} (h : AllIn w (vs.zip (partsT.map fun ps => ps.map fun (p : Nat) => (p : Int)))) (hl : vs.length = 21) (k : Nat) (v : Value) (hk : vs[k]? = some v) : IntsIn w v ((partT k).map fun (p : Nat) => (p : Int)) := by
  have hk2 := (List.getElem?_eq_some_iff.1 hk).1
  have e : (partsT.map fun ps => ps.map fun (p : Nat) => (p : Int))[k]? = some ((partT k).map fun (p : Nat) => (p : Int)) := by
    unfold partT
    rw [List.getElem?_map, List.getD_eq_getElem?_getD, List.getElem?_eq_getElem (show k < partsT.length by show k < 21; omega)]; rfl
  exact h (v, _) (List.mem_of_getElem? (i := k) (by rw [List.getElem?_zip_eq_some]; exact ⟨hk, e⟩))
set_option maxHeartbeats 4000000 in
set_option maxRecDepth 100000 in
theorem shapes_calls (w : World) : Calls Tryz.prog 19 #[] w fun e w' => ∃ vs : List Value, e = .returned (.agg (shapeV wordsT vs).toArray) ∧ vs.length = 21 ∧ (∀ k v, vs[k]? = some v → IntsIn w' v ((partT k).map fun (p : Nat) => (p : Int))) ∧ Below w.heap.size w w' := by
  have hb0 : Below w.heap.size w (w.alloc (.cells zeroS 50)) := (Below.refl _ _).alloc (Nat.le_refl _) _
  have hc0 : (w.alloc (.cells zeroS 50)).heap[w.heap.size]? = some (.cells zeroS 50 (0, 0)) := World.alloc_heap_new _ _
  go_enter Tryz.func19, Tryz.ntmps19
  go_upto_region 1 with (fail)
  change Code.wp _ _ _ _ (w.alloc (.cells zeroS 50))
  generalize w.alloc (.cells zeroS 50) = w0 at *
  have hlt0 : w.heap.size < w0.heap.size := lt_of_block hc0
  have HA : AllIn w0 [] := fun x hx => by cases hx
  have HB : Below w0.heap.size w0 w0 := Below.refl _ _
  go_wp2_with (first | ((with_reducible apply wpList_store_42 w.heap.size); (case hy => rfl); (case hx => rfl); (case hf => rfl); (case h1 => simp [Value.oneCell']); (case hg => exact (HB.block _ hlt0).trans hc0)) | ((with_reducible apply wpList_ints [0, 1, 5]); rfl; decide; decide; rfl; intro g W hg hb; replace HA := HA.cons hb hg; replace HB := HB.trans (hb.mono HB.size)) | ((with_reducible apply wpList_ints [0, 4]); rfl; decide; decide; rfl; intro g W hg hb; replace HA := HA.cons hb hg; replace HB := HB.trans (hb.mono HB.size)) | ((with_reducible apply wpList_ints [0]); rfl; decide; decide; rfl; intro g W hg hb; replace HA := HA.cons hb hg; replace HB := HB.trans (hb.mono HB.size)) | ((with_reducible apply wpList_ints [5]); rfl; decide; decide; rfl; intro g W hg hb; replace HA := HA.cons hb hg; replace HB := HB.trans (hb.mono HB.size)) | ((with_reducible apply wpList_ints [4]); rfl; decide; decide; rfl; intro g W hg hb; replace HA := HA.cons hb hg; replace HB := HB.trans (hb.mono HB.size)) | ((with_reducible apply wpList_ints [4, 1, 2]); rfl; decide; decide; rfl; intro g W hg hb; replace HA := HA.cons hb hg; replace HB := HB.trans (hb.mono HB.size)) | ((with_reducible apply wpList_ints [3, 4]); rfl; decide; decide; rfl; intro g W hg hb; replace HA := HA.cons hb hg; replace HB := HB.trans (hb.mono HB.size)) | ((with_reducible apply wpList_ints [3]); rfl; decide; decide; rfl; intro g W hg hb; replace HA := HA.cons hb hg; replace HB := HB.trans (hb.mono HB.size)) | ((with_reducible apply wpList_ints [3, 2]); rfl; decide; decide; rfl; intro g W hg hb; replace HA := HA.cons hb hg; replace HB := HB.trans (hb.mono HB.size)) | ((with_reducible apply wpList_ints [2]); rfl; decide; decide; rfl; intro g W hg hb; replace HA := HA.cons hb hg; replace HB := HB.trans (hb.mono HB.size)) | ((with_reducible apply wpList_ints [2, 5]); rfl; decide; decide; rfl; intro g W hg hb; replace HA := HA.cons hb hg; replace HB := HB.trans (hb.mono HB.size)))
  go_wp2_with fail
  have hcur := (HB.block _ hlt0).trans hc0
  refine bodyPost_ret_by (results_cell_row rfl _ _ w.heap.size 50 _ (0, 0) _ rfl (setRow_heap _ _ _ _ _ _ hcur) u40 rfl ?_) rfl ?_
  · rw [size50]; rfl
  refine ⟨[.slice none 0 0, .slice none 0 0, _, _, _, _, _, _, _, _, _, _, _, _, .slice none 0 0, .slice none 0 0, .slice none 0 0, .slice none 0 0, .slice none 0 0, _, _], rfl, rfl, allIn_at ?_ rfl, below_setRow (hb0.trans (HB.mono hb0.size)) (Nat.le_refl _) _⟩
  rw [castT]
  intro x hx
  simp only [List.zip_cons_cons, List.zip_nil_right, List.mem_cons, List.not_mem_nil, or_false] at hx
  rcases hx with rfl | rfl | rfl | rfl | rfl | rfl | rfl | rfl | rfl | rfl | rfl | rfl | rfl | rfl | rfl | rfl | rfl | rfl | rfl | rfl | rfl
  all_goals first | exact IntsIn.nil _ | exact IntsIn.setRow (HA _ (by simp)) hcur
theorem run_index_shapes (m : Nat) (hm : m ≤ 20) (cs : Array Value) (W : World) :
    (Instr.index 50 (.agg cs) (.int .i64 m)).run Tryz.prog W = .ok (.agg (cs.extract (m * 2) (m * 2 + 2))) W := by
  have hi : (0 : Int) ≤ m ∧ (m : Int) < 21 := by omega
  simp [Instr.index, asIntOf, run_underlying u40, hi, go_sem, part, isAgg, sizeOf]
  rw [if_pos (by omega)]
  rfl
theorem shapeV_cons (w : List UInt8) (ws : List (List UInt8)) (v : Value) (vs : List Value) : shapeV (w :: ws) (v :: vs) = .string ⟨w.toArray⟩ :: v :: shapeV ws vs := rfl
theorem shapeV_at : ∀ (m : Nat) (ws : List (List UInt8)) (vs : List Value) (w : List UInt8) (v : Value), ws[m]? = some w → vs[m]? = some v → ((shapeV ws vs).drop (m * 2)).take 2 = [.string ⟨w.toArray⟩, v]
  | 0, x :: ws, y :: vs, w, v, h1, h2 => by
    have e1 : x = w := by simpa using h1
    have e2 : y = v := by simpa using h2
    subst e1 e2
    rw [shapeV_cons]; rfl
  | m + 1, x :: ws, y :: vs, w, v, h1, h2 => by
    rw [shapeV_cons, show (m + 1) * 2 = m * 2 + 1 + 1 by omega, List.drop_succ_cons, List.drop_succ_cons]
    exact shapeV_at m ws vs w v (by simpa using h1) (by simpa using h2)
  | _, [], _, _, _, h1, _ => by simp at h1
  | _, _ :: _, [], _, _, _, h2 => by simp at h2
theorem index_shapes (m : Nat) (hm : m ≤ 20) (vs : List Value) (v : Value) (hv : vs[m]? = some v) (W : World) :
    (Instr.index 50 (.agg (shapeV wordsT vs).toArray) (.int .i64 m)).run Tryz.prog W = .ok (.agg #[.string ⟨(wordT m).toArray⟩, v]) W := by
  rw [run_index_shapes m hm]
  have e : (shapeV wordsT vs).toArray.extract (m * 2) (m * 2 + 2) = #[.string ⟨(wordT m).toArray⟩, v] := by
    apply Array.ext'
    have := shapeV_at m wordsT vs _ v (wordsT_at m hm) hv
    simpa [List.extract_eq_take_drop] using this
  rw [e]
end Go.Proofs.YtjplfkcelkijfaaGreatDoor
