/- glob.parts and glob.Right: what is wrong with a pattern, for every string of at most 140737488351232 bytes; nothing that was there changes. -/
import Derived.Test.YtolaecdopfmbgaaDoorGlE
namespace Go.Proofs.YtolaecdopfmbgaaDoor.Gl
open Go.RowKit Go.Shelf
attribute [local go_sem] Oper.semAt_some PY.encs

/-- a result that lies in a box of one cell -/
theorem results_one {P : Program} {fn : Func} {p : Tmp} {ty : TypeId} (h : fn.results = #[.cell p ty]) (tmps : Array Value) (w : World) (g : Nat) (v : Value) (t : TypeId)
    (hp : tmps.getD p undef = .pointer (some ⟨g, 0, none⟩)) (hg : w.heap[g]? = some (.cells #[v] t)) (ha : ∀ w, (isAgg ty).run P w = .ok false w) (hs : ∀ w, (sizeOf ty).run P w = .ok 1 w) : (results fn tmps).run P w = .ok v w := by
  have hp' : tmps[p]?.getD undef = .pointer (some ⟨g, 0, none⟩) := by simpa using hp
  have hc : w.cell? ⟨g, 0, none⟩ = some v := cell_of_one hg
  simp [results, h, hp', asAddr, loadVar, ha, hs, hc]
theorem parts_calls (p : ByteArray) (w : World) :
    Calls Tryd.prog 73 #[.string p] w fun e w' => e = .returned (.func (.func 104) #[] #[.pointer (some ⟨w.heap.size, 0, none⟩)]) ∧ w' = w.alloc (.cells #[.string p] 9) := by
  go_enter Tryd.func73, Tryd.ntmps73
  go_wp2
  go_ret
  exact ⟨rfl, rfl⟩

def rightG (p : List UInt8) : Int := if 64 < p.length then 18 else if (partsL p).all (·.ok) then 0 else 3

set_option maxHeartbeats 1000000 in
theorem right_calls (p : ByteArray) (w : World) (hp : p.size ≤ 140737488351232) :
    Calls Tryd.prog 45 #[.string p] w fun e w' => e = .returned (.int .i64 (rightG p.data.toList)) ∧ Below w.heap.size w w' := by
  have hlen : p.data.toList.length = p.size := by simp
  by_cases hl : 64 < p.size
  · have hR : rightG p.data.toList = 18 := by unfold rightG; rw [hlen, if_pos hl]
    have HR := Lib.hid hR
    clear hR hlen
    have hl' : (64 : Int) < p.size := by omega
    clear hl
    go_enter Tryd.func45, Tryd.ntmps45
    go_wp2
    refine bodyPost_ret_by (results_one rfl _ _ w.heap.size (.int .i64 18) 24 rfl (heap_at _ _ _ rfl) Tryd.isAgg24 Tryd.sizeOf24) rfl ⟨by rw [HR.out], (Below.refl _ _).alloc (Nat.le_refl _) _⟩
  · have hR : rightG p.data.toList = if (partsL p.data.toList).all (·.ok) then 0 else 3 := by unfold rightG; rw [hlen, if_neg hl]
    have HR := Lib.hid hR
    clear hR hlen
    have hl' : ¬ (64 : Int) < p.size := by omega
    clear hl
    refine (callsIn_wide (n := 9)).1 ?_
    refine callsIn_of_wp_marks Tryd.func45 rfl trivial ?_ rfl
    simp only [Tryd.ntmps45, List.size_toArray, List.length_cons, List.length_nil, Nat.reduceAdd, Nat.reduceSub, Array.replicate_succ, Array.replicate_zero, List.push_toArray, List.append_toArray, List.nil_append, List.cons_append]
    gi_wp2_with (refine ⟨trivial, ?_⟩; gi_at_call 73; refine (callsIn_wide.2 (parts_calls _ _)).mono ?_; rintro e w' ⟨rfl, rfl⟩)
    have hz0 : ((w.alloc (.cells #[.int .i64 0] 24)).alloc (.cells #[.string p] 9)).heap.size = w.heap.size + 2 := by simp
    have hr0 : ((w.alloc (.cells #[.int .i64 0] 24)).alloc (.cells #[.string p] 9)).heap[w.heap.size]? = some (.cells #[.int .i64 0] 24) := (heap_past _ _ _ (by simp)).trans (heap_at _ _ _ rfl)
    have hp0 : ((w.alloc (.cells #[.int .i64 0] 24)).alloc (.cells #[.string p] 9)).heap[w.heap.size + 1]? = some (.cells #[.string p] 9) := heap_at _ _ _ (by simp)
    have hB0 : Below w.heap.size w ((w.alloc (.cells #[.int .i64 0] 24)).alloc (.cells #[.string p] 9)) := ((Below.refl _ _).alloc (Nat.le_refl _) _).alloc (by simp) _
    generalize (w.alloc (.cells #[.int .i64 0] 24)).alloc (.cells #[.string p] 9) = w0 at *
    refine wpIn_rangeG (gf := 104) (lb := #[.pointer (some ⟨w.heap.size + 1, 0, none⟩)]) rfl (enters_of Tryd.func104 (by kernel_rfl) rfl) (parts1_seq (9 - 1) (w.heap.size + 1) p w0 hp hp0) (Below.refl _ _) (fun k h => by omega) (fun _ => rfl)
      (fun pre W => pre.all (·.ok) = true ∧ W.heap[w.heap.size]? = some (.cells #[.int .i64 0] 24) ∧ Below w.heap.size w W)
      (fun c pre W => c = .ret ∧ pre.all (·.ok) = false ∧ W.heap[w.heap.size]? = some (.cells #[.int .i64 3] 24) ∧ Below w.heap.size w W)
      (fun pre x a W => a = { tmps := #[.string p, undef, .pointer (some ⟨w.heap.size, 0, none⟩), undef, .bool x.ok, .string p, .int .i64 p.size, .bool false, .string p, .func (.func 104) #[] #[.pointer (some ⟨w.heap.size + 1, 0, none⟩)], .agg (partCells x.m x.f), .bool x.ok, undef, undef], defers := [] } ∧ pre.all (·.ok) = true ∧ W.heap[w.heap.size]? = some (.cells #[.int .i64 0] 24) ∧ Below w.heap.size w W)
      ?hI ?hIx ?hAx ⟨rfl, hr0, hB0⟩ ?hassign ?hbody ?hdone ?hstop
    case hI =>
      rintro pre A B ⟨h1, h2, h3⟩ hm
      have hlt := lt_of_block h2
      exact ⟨h1, (hm.block _ hlt (by simp only [withLoop]; omega)).trans h2, h3.trans (hm.below h3.size fun k hk => by simp only [withLoop] at hk; omega)⟩
    case hIx =>
      rintro c pre A B ⟨h0, h1, h2, h3⟩ hm
      have hlt := lt_of_block h2
      exact ⟨h0, h1, (hm.block _ hlt (by simp only [withLoop]; omega)).trans h2, h3.trans (hm.below h3.size fun k hk => by simp only [withLoop] at hk; omega)⟩
    case hAx =>
      rintro pre x a ⟨⟩ A B ⟨h0, h1, h2, h3⟩ hm
      have hlt := lt_of_block h2
      exact ⟨h0, h1, (hm.block _ hlt (by simp only [withLoop]; omega)).trans h2, h3.trans (hm.below h3.size fun k hk => by simp only [withLoop] at hk; omega)⟩
    case hassign =>
      rintro l pre x W K hpre hz ⟨h1, h2, h3⟩ hK
      gi_wp2
      exact hK _ _ (Keeps.refl _ _) ⟨rfl, h1, h2, h3⟩
    case hbody =>
      rintro l pre x a W hpre hz ⟨rfl, h1, h2, h3⟩
      have c2 := cell_of_one h2
      have f2 := free_of_one h2
      cases hok : x.ok
      · gi_wp2
        exact ⟨Keeps.setCell _ _ _ (by simp only [withLoop]; omega), rfl, by simp [hok], one_setCell h2, h3.setCell (Nat.le_refl _) _⟩
      · gi_wp2
        exact ⟨Keeps.refl _ _, by simp [h1, hok], h2, h3⟩
    case hdone =>
      rintro W ⟨h1, h2, h3⟩ hD hz
      have c2 := cell_of_one h2
      have f2 := free_of_one h2
      gi_wp2
      have h4 := one_setCell h2 (u := .int .i64 0)
      have hD' : (W.setCell ⟨w.heap.size, 0, none⟩ (.int .i64 0)).heap[w0.heap.size]? = some (.deferred (some [])) := by rw [heap_setCell_other _ _ _ _ (by simp; omega)]; exact hD
      refine postM_ret rfl hD' (results_one rfl _ _ w.heap.size (.int .i64 0) 24 rfl ((World.putObj_heap_other (by omega)).trans h4) Tryd.isAgg24 Tryd.sizeOf24) ⟨by rw [HR.out, h1]; rfl, below_putObj (h3.setCell (Nat.le_refl _) _) (by omega) _⟩
    case hstop =>
      rintro c pre W hpre ⟨rfl, h1, h2, h3⟩ hD hz
      gi_wp2
      have h4 : (partsL p.data.toList).all (·.ok) = false := by
        obtain ⟨t, ht⟩ := hpre
        rw [← ht, List.all_append, h1, Bool.false_and]
      refine postM_ret rfl hD (results_one rfl _ _ w.heap.size (.int .i64 3) 24 rfl ((World.putObj_heap_other (by omega)).trans h2) Tryd.isAgg24 Tryd.sizeOf24) ⟨by rw [HR.out, h4]; rfl, below_putObj h3 (by omega) _⟩
end Go.Proofs.YtolaecdopfmbgaaDoor.Gl
