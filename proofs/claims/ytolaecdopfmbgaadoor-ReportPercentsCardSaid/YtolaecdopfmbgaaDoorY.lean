/- The reference's reading of a line: for every line of at most 140737488351232 bytes. -/
import Derived.Deep.RegionHeld3
import Derived.Test.YtolaecdopfmbgaaDoorX
namespace Go.Proofs.YtolaecdopfmbgaaDoor
open Go.RowKit

theorem heap_setCells {g : Nat} {t : TypeId} {fr : Nat × Nat} : ∀ (vs pre mid post : List Value) (w : World), mid.length = vs.length → w.heap[g]? = some (.cells (pre ++ mid ++ post).toArray t fr) →
    (w.setCells g pre.length vs).heap[g]? = some (.cells (pre ++ vs ++ post).toArray t fr)
  | [], pre, mid, post, w, hm, h => by
    have : mid = [] := List.eq_nil_of_length_eq_zero hm
    subst this
    exact h
  | v :: vs, pre, mid, post, w, hm, h => by
    cases mid with
    | nil => cases hm
    | cons m mid =>
      have h1 := Joins.block_setCell (i := pre.length) h v
      have e : (pre ++ m :: mid ++ post).toArray.setIfInBounds pre.length v = ((pre ++ [v]) ++ mid ++ post).toArray := by
        rw [List.setIfInBounds_toArray, List.append_assoc, List.set_append_right _ _ (Nat.le_refl _), Nat.sub_self]
        simp
      rw [e] at h1
      have h2 := heap_setCells vs (pre ++ [v]) mid post _ (by simpa using hm) h1
      rw [List.length_append] at h2
      show ((w.setCell ⟨g, pre.length, none⟩ v).setCells g (pre.length + 1) vs).heap[g]? = _
      rw [show pre.length + 1 = pre.length + [v].length from rfl, h2]
      simp
theorem heap_setCells_other {g k : Nat} (hk : k ≠ g) : ∀ (vs : List Value) (o : Nat) (w : World), (w.setCells g o vs).heap[k]? = w.heap[k]?
  | [], _, _ => rfl
  | v :: vs, o, w => by
    show ((w.setCell ⟨g, o, none⟩ v).setCells g (o + 1) vs).heap[k]? = _
    rw [heap_setCells_other hk vs (o + 1), Below.heap_setCell _ _ _ _ hk]
theorem below_setCells' {B g : Nat} (hg : B ≤ g) : ∀ (vs : List Value) (o : Nat) {a w : World}, Below B a w → Below B a (w.setCells g o vs)
  | [], _, _, _, h => h
  | v :: vs, o, a, w, h => below_setCells' hg vs (o + 1) (h.setCell hg v)
theorem heap_digAt {w : World} {g : Nat} {r : Rf} {d : List UInt8} {fr : Nat × Nat} (hf : r.fits) (hd : d.length = 32) (h : w.heap[g]? = some (.cells (refV r).toArray 41 fr)) :
    (w.setCells g 1 (digV d)).heap[g]? = some (.cells (refV ⟨r.m, d, r.n⟩).toArray 41 fr) :=
  heap_setCells (digV d) [.bool r.m] (digV r.d) [.int .i64 r.n] w (by rw [digV_length, digV_length, hd, hf.1]) h
theorem rangeAt_ref {w : World} {g : Nat} {r : Rf} {t : TypeId} {fr : Nat × Nat} (h : w.heap[g]? = some (.cells (refV r).toArray t fr)) : w.rangeAt g 0 (refV r) := fun j v hv => by
  rw [Nat.zero_add, Lib.cell_of_heap h]
  simpa using hv
theorem there_of_heap {w : World} {g o n : Nat} {cs : Array Value} {t : TypeId} (h : w.heap[g]? = some (.cells cs t)) (hn : o + n ≤ cs.size) : w.there g o n := fun j hj => by
  refine ⟨?_, Lib.frozen_of_heap h _⟩
  rw [Lib.cell_of_heap h, Array.getElem?_eq_getElem (by omega)]; rfl
/-- a digest is written into a reference -/
theorem wpList_store_digin {ops : Array Oper} {rest : List Oper} {a : Act} {w : World} {Q : Exit → Act → World → Prop} {d : Option Tmp} {x y : Tmp} {ty : TypeId} {pos : String} {after : Array Edge}
    (g : Nat) (l : List UInt8) (r : Rf) (hf : r.fits) (hl : l.length = 32) (hx : a.tmps.getD x undef = .pointer (some ⟨g, 1, none⟩)) (hy : a.tmps.getD y undef = .agg (digV l).toArray)
    (hg : w.heap[g]? = some (.cells (refV r).toArray 41))
    (h : wpList Tryd.prog ops Q rest (a.put d undef) (w.setCells g 1 (digV l))) :
    wpList Tryd.prog ops Q ({ dst := d, op := .store 39 (.tmp x) (.tmp y), type := ty, pos := pos, after := after, guard := none } :: rest) a w :=
  wpList_store_mid rfl 39 (.tmp x) (.tmp y) rfl g 1 (digV l).toArray hx hy (there_of_heap hg (by simp [digV_length, hl, refV_length hf])) (by rw [size39]; simp [digV_length, hl]) (digV_one l) h
theorem set_m (b : Bool) (r : Rf) : (refV r).toArray.setIfInBounds 0 (.bool b) = (refV ⟨b, r.d, r.n⟩).toArray := by
  simp [refV]
theorem set_n (n : Int) {r : Rf} (hf : r.fits) : (refV r).toArray.setIfInBounds 33 (.int .i64 n) = (refV ⟨r.m, r.d, n⟩).toArray := by
  have e : refV r = (.bool r.m :: digV r.d) ++ [.int .i64 r.n] := rfl
  rw [e, List.setIfInBounds_toArray, List.set_append_right _ _ (by simp [digV_length, hf.1])]
  have : 33 - (Value.bool r.m :: digV r.d).length = 0 := by simp [digV_length, hf.1]
  rw [this]; rfl
/-- the result's block and the reference's -/
def Two (w w1 : World) (r : Rf) : Prop := w1.heap[w.heap.size]? = some (.cells (refV zeroR).toArray 41) ∧ w1.heap[w.heap.size + 1]? = some (.cells (refV r).toArray 41) ∧ Below w.heap.size w w1
theorem Two.below {w w1 W : World} {r : Rf} (h : Two w w1 r) (hb : Below w1.heap.size w1 W) : Two w W r := by
  obtain ⟨h1, h2, h3⟩ := h
  have l1 := (Array.getElem?_eq_some_iff.1 h1).1
  have l2 := (Array.getElem?_eq_some_iff.1 h2).1
  exact ⟨(hb.block _ l1).trans h1, (hb.block _ l2).trans h2, h3.trans (hb.mono h3.size)⟩
theorem Two.dig {w w1 : World} {r : Rf} (h : Two w w1 r) (hf : r.fits) {d : List UInt8} (hd : d.length = 32) : Two w (w1.setCells (w.heap.size + 1) 1 (digV d)) ⟨r.m, d, r.n⟩ :=
  ⟨(heap_setCells_other (by omega) _ _ _).trans h.1, heap_digAt hf hd h.2.1, below_setCells' (by omega) _ _ h.2.2⟩
theorem Two.num {w w1 : World} {r : Rf} (h : Two w w1 r) (hf : r.fits) (n : Int) : Two w (w1.setCell ⟨w.heap.size + 1, 33, none⟩ (.int .i64 n)) ⟨r.m, r.d, n⟩ :=
  ⟨(Below.heap_setCell _ _ _ _ (by show w.heap.size ≠ w.heap.size + 1; omega)).trans h.1, by rw [Joins.block_setCell h.2.1, set_n n hf], h.2.2.setCell (by show w.heap.size ≤ w.heap.size + 1; omega) _⟩
theorem Two.row {w w1 : World} {r : Rf} (h : Two w w1 r) (x : Rf) : (w1.setRow w.heap.size (refV x).toArray).heap[w.heap.size]? = some (.cells (refV x).toArray 41) := setRow_heap w1 w.heap.size _ (refV x).toArray 41 (0, 0) h.1
theorem two_new (w : World) (r : Rf) : ((w.alloc (.cells (refV zeroR).toArray 41)).alloc (.cells (refV r).toArray 41)).heap[w.heap.size]? = some (.cells (refV zeroR).toArray 41) ∧
    ((w.alloc (.cells (refV zeroR).toArray 41)).alloc (.cells (refV r).toArray 41)).heap[w.heap.size + 1]? = some (.cells (refV r).toArray 41) ∧ Below w.heap.size w ((w.alloc (.cells (refV zeroR).toArray 41)).alloc (.cells (refV r).toArray 41)) := by
  refine ⟨(Lib.alloc_old _ _ _ (by simp)).trans (heap_alloc_new w _), ?_, ((Below.refl _ _).alloc (Nat.le_refl _) _).alloc (by simp) _⟩
  have := heap_alloc_new (w.alloc (.cells (refV zeroR).toArray 41)) (.cells (refV r).toArray 41)
  simpa using this
/-- a load and a store of a reference, in a region that draws -/
theorem loads_ref (g : Nat) (r : Rf) (hf : r.fits) (w : World) (h : w.rangeAt g 0 (refV r)) : (loadVar 41 ⟨g, 0, none⟩).run Tryd.prog w = .ok (.agg (refV r).toArray) w :=
  run_loadVar_mid w g 0 41 (refV r) _ h Tryd.underlying41 rfl (by rw [size41, refV_length hf])
theorem stores_ref (g : Nat) (r r0 : Rf) (hf : r.fits) (hf0 : r0.fits) (w : World) (h : w.heap[g]? = some (.cells (refV r0).toArray 41)) : (storeVar 41 ⟨g, 0, none⟩ (.agg (refV r).toArray)).run Tryd.prog w = .ok () (w.setRow g (refV r).toArray) :=
  run_storeVar_row w g 41 41 (refV r0).toArray (refV r).toArray h (by rw [size41]; simp [refV_length hf]) (by simp [refV_length hf, refV_length hf0]) (refV_one r)

theorem man_test (s : ByteArray) : ((s.extract 0 9).toList == [109, 97, 110, 105, 102, 101, 115, 116, 32]) = Lib.hasPrefix s.data.toList manP ∨ s.size < 9 := by
  rcases Nat.lt_or_ge s.size 9 with h | h
  · exact .inr h
  · left
    have := Lib.hasPrefix_raw s ⟨manP.toArray⟩
    rw [show (decide ((⟨manP.toArray⟩ : ByteArray).size ≤ s.size)) = true from decide_eq_true (by show 9 ≤ s.size; omega), Bool.true_and] at this
    rw [← this, ByteArray.toList_eq ⟨manP.toArray⟩]
    rfl

set_option maxHeartbeats 2000000 in
set_option maxRecDepth 100000 in
theorem refRead_man (s : ByteArray) (w : World) (hs : s.size ≤ 140737488351232) (hM : Lib.hasPrefix s.data.toList manP = true) :
    Calls Tryd.prog 33 #[.string s] w (RefPost s.data.toList w) := by
  have hls : s.data.toList.length = s.size := by simp
  have hs' : (s.size : Int) ≤ 140737488351232 := by omega
  have hx := man_test s
  · have h9n : 9 ≤ s.size := by
      rw [pre_of hM, List.length_append] at hls
      simp [manP] at hls; omega
    have h9 : (s.size : Int) ≥ 9 := by omega
    have hx' : ((s.extract 0 9).toList == [109, 97, 110, 105, 102, 101, 115, 116, 32]) = true := by
      rcases hx with hx | hx
      · rw [hx, hM]
      · omega
    have cm : ((w.alloc (.cells (refV zeroR).toArray 41)).alloc (.cells (refV zeroR).toArray 41)).cell? ⟨w.heap.size + 1, 0, none⟩ = some (.bool false) := by rw [Lib.cell_of_heap (two_new w zeroR).2.1]; rfl
    have fm : ((w.alloc (.cells (refV zeroR).toArray 41)).alloc (.cells (refV zeroR).toArray 41)).frozen? ⟨w.heap.size + 1, 0, none⟩ = false := Lib.frozen_of_heap (two_new w zeroR).2.1 0
    have HM := Lib.hid hM
    have HLS := Lib.hid hls
    clear hx hM hls h9n hs
    go_enter Tryd.func33, Tryd.ntmps33
    go_upto_region 6 with (first | (with_reducible refine wpList_alloc_ref ?_))
    rw [show (refV zeroR).set 0 (.bool true) = refV ⟨true, zeroR.d, zeroR.n⟩ from rfl]
    obtain ⟨ha, hb, hc⟩ := two_new w ⟨true, zeroR.d, zeroR.n⟩
    generalize (w.alloc (.cells (refV zeroR).toArray 41)).alloc (.cells (refV ⟨true, zeroR.d, zeroR.n⟩).toArray 41) = w1 at *
    have hft : (⟨true, zeroR.d, zeroR.n⟩ : Rf).fits := ⟨zeroR_fits.1, by simp [zeroR], by simp [zeroR]⟩
    have HFT := Lib.hid hft
    have HT := Lib.hid (show Two w w1 ⟨true, zeroR.d, zeroR.n⟩ from ⟨ha, hb, hc⟩)
    clear ha hb hc hft hx' cm fm
    by_cases h80 : (s.size : Int) < 80
    · have HN := Lib.hid (man_short HM.out (by rw [HLS.out]; omega))
      go_wp2_with (first | ((with_reducible apply wpList_load_ref (w.heap.size + 1) 0 ⟨true, zeroR.d, zeroR.n⟩); rfl; exact rangeAt_ref HT.out.2.1; exact HFT.out) | ((with_reducible apply wpList_store_refat w.heap.size ⟨true, zeroR.d, zeroR.n⟩ zeroR HFT.out zeroR_fits); rfl; rfl; exact HT.out.1))
      refine bodyPost_ret_by (results_ref rfl _ _ w.heap.size ⟨true, zeroR.d, zeroR.n⟩ _ HFT.out rfl (HT.out.row _) rfl) rfl ?_
      exact RefPost.is HFT.out (by rw [HN.out]; rfl) (fun x hx => by rw [HN.out] at hx; cases hx) (below_setRow HT.out.2.2 (Nat.le_refl _) _)
    · have hT : (s.extract 9 80).data.toList = (s.data.toList.drop 9).take 71 := by
        rw [Lib.extract_data]
      have h58 := fun x => refDigRead_calls (s.extract 9 80) x (by simp; omega)
      rw [hT] at h58
      have hno := man_no (l := s.data.toList) HM.out
      have his := man_is (l := s.data.toList) HM.out
      have hDL := digD_length ((s.data.toList.drop 9).take 71)
      unfold DigPost at h58
      generalize digD ((s.data.toList.drop 9).take 71) = D at *
      generalize digOk ((s.data.toList.drop 9).take 71) = O at *
      have H58 := Lib.hid h58
      have HNO := Lib.hid hno
      have HIS := Lib.hid his
      have HDL := Lib.hid hDL
      clear h58 hno his hDL hT
      cases O with
      | false =>
        go_upto_region 9 with (first | (go_at_call 58; refine (H58.out _).mono ?_; rintro e w2 ⟨rfl, hb2⟩) | (with_reducible refine wpList_alloc_dig ?_) | ((with_reducible apply wpList_store_dignew w2 D zeroD HDL.out zeroD_length); rfl; rfl))
        have HT2 := Lib.hid (HT.out.below (hb2.alloc hb2.size (.cells (digV D).toArray 39)))
        generalize w2.alloc (.cells (digV D).toArray 39) = w3 at *
        go_wp2_with (first | ((with_reducible apply wpList_load_ref (w.heap.size + 1) 0 ⟨true, zeroR.d, zeroR.n⟩); rfl; exact rangeAt_ref HT2.out.2.1; exact HFT.out) | ((with_reducible apply wpList_store_refat w.heap.size ⟨true, zeroR.d, zeroR.n⟩ zeroR HFT.out zeroR_fits); rfl; rfl; exact HT2.out.1))
        refine bodyPost_ret_by (results_ref rfl _ _ w.heap.size ⟨true, zeroR.d, zeroR.n⟩ _ HFT.out rfl (HT2.out.row _) rfl) rfl ?_
        exact RefPost.is HFT.out (by rw [HNO.out (by trivial)]; rfl) (fun x hx => by rw [HNO.out (by trivial)] at hx; cases hx) (below_setRow HT2.out.2.2 (Nat.le_refl _) _)
      | true =>
        go_upto_region 9 with (first | (go_at_call 58; refine (H58.out _).mono ?_; rintro e w2 ⟨rfl, hb2⟩) | (with_reducible refine wpList_alloc_dig ?_) | ((with_reducible apply wpList_store_dignew w2 D zeroD HDL.out zeroD_length); rfl; rfl))
        have HT2 := Lib.hid (HT.out.below (hb2.alloc hb2.size (.cells (digV D).toArray 39)))
        have RG := Lib.hid (rangeAt_new w2 (digV D) 39)
        generalize w2.alloc (.cells (digV D).toArray 39) = w3 at *
        generalize w2.heap.size = g6 at *
        clear hb2
        go_upto_region 12 with (first | ((with_reducible apply wpList_load_dig g6 0 D); rfl; exact RG.out; exact HDL.out) | ((with_reducible apply wpList_store_digin (w.heap.size + 1) D ⟨true, zeroR.d, zeroR.n⟩ HFT.out HDL.out); rfl; rfl; exact HT2.out.2.1))
        have hf2 : (⟨true, D, 0⟩ : Rf).fits := ⟨HDL.out, by simp, by simp⟩
        have HF2 := Lib.hid hf2
        have HT3 := Lib.hid (show Two w (w3.setCells (w.heap.size + 1) 1 (digV D)) ⟨true, D, 0⟩ from HT2.out.dig HFT.out HDL.out)
        generalize w3.setCells (w.heap.size + 1) 1 (digV D) = w4 at *
        have cm : w4.cell? ⟨w.heap.size + 1, 0, none⟩ = some (.bool true) := by rw [Lib.cell_of_heap HT3.out.2.1]; rfl
        have H30 := Lib.hid (refLine_calls ⟨true, D, 0⟩ · HF2.out (.inl rfl))
        clear hf2
        go_upto_region 13 with (fail)
        have hS0 : (fun w' : World => w'.rangeAt (w.heap.size + 1) 0 (refV ⟨true, D, 0⟩) ∧ w'.there w.heap.size 0 34) w4.drew := ⟨rangeAt_ref HT3.out.2.1, there_of_heap HT3.out.1 (by simp [refV_length zeroR_fits])⟩
        have HLD := fun (ops : Array Oper) (op : Oper) (a : Act) (hw : Region.wanted op (yielded ops a.tmps) = true) (x : Operand) (ho : op.op = .load 41 x) (hx : a.eval x = .pointer (some ⟨w.heap.size + 1, 0, none⟩)) =>
          yieldsIf_load_mid (P := Tryd.prog) (ops := ops) (S := fun w' : World => w'.rangeAt (w.heap.size + 1) 0 (refV ⟨true, D, 0⟩) ∧ w'.there w.heap.size 0 34) (op := op) (a := a) hw 41 x ho (w.heap.size + 1) 0 hx (refV ⟨true, D, 0⟩) _ (fun w' h => h.1) Tryd.underlying41 rfl (by rw [size41, refV_length HF2.out])
        refine wp_region_held_drew (S := fun w' : World => w'.rangeAt (w.heap.size + 1) 0 (refV ⟨true, D, 0⟩) ∧ w'.there w.heap.size 0 34) (by kernel_rfl) hS0 (fun hHeld => ?_)
        refine wpAnyH_take (i := 0) rfl (by kernel_rfl) (by kernel_rfl) (by kernel_rfl) (fun _ _ _ h => h) (HLD _ _ _ rfl _ rfl rfl) hHeld ?_
        refine wpAnyH_take (i := 1) rfl (by kernel_rfl) (by kernel_rfl) (by kernel_rfl) (fun _ _ _ h => h) (HLD _ _ _ rfl _ rfl rfl) hHeld ?_
        refine wpAnyH_take (i := 3) (v := .string s) rfl (by kernel_rfl) (by kernel_rfl) (by kernel_rfl) (fun _ _ _ h => h) (.inl ⟨rfl, fun w' _ => rfl⟩) hHeld ?_
        refine wpAnyH_ready (rs := [2]) (by kernel_rfl) (by simp) (AllReadyH.cons rfl (fun K hK => ?_) AllReadyH.nil)
        try simp only [Act.put, List.setIfInBounds_toArray, List.set_cons_zero, List.set_cons_succ]
        go_simp
        go_at_call 30
        refine (H30.out _).mono ?_
        rintro e w5 ⟨rfl, hb5⟩
        have HT4 := Lib.hid (HT3.out.below ((below_drew0 w4).trans hb5))
        have hS5 : w5.rangeAt (w.heap.size + 1) 0 (refV ⟨true, D, 0⟩) ∧ w5.there w.heap.size 0 34 := ⟨rangeAt_ref HT4.out.2.1, there_of_heap HT4.out.1 (by simp [refV_length zeroR_fits])⟩
        go_simp
        refine hK.out _ _ hS5 (fun hHeld => ?_)
        clear hK K
        try simp only [Act.put, List.setIfInBounds_toArray, List.set_cons_zero, List.set_cons_succ]
        refine wpAnyH_take (i := 4) (v := .bool ((⟨(lineL ⟨true, D, 0⟩).toArray⟩ : ByteArray).toList == s.toList)) rfl (by kernel_rfl) (by kernel_rfl) (by kernel_rfl) (fun _ _ _ h => h) (.inl ⟨rfl, fun w' _ => (by go_simp)⟩) hHeld ?_
        try simp only [Act.put, List.setIfInBounds_toArray, List.set_cons_zero, List.set_cons_succ]
        refine wpAnyH_ready (rs := [5]) (by kernel_rfl) (by simp) (AllReadyH.cons rfl (fun K hK => ?_) AllReadyH.nil)
        rw [if_pos (by rfl)]
        refine wp_store_mid 41 (.tmp 2) (.tmp 40) rfl w.heap.size 0 (refV ⟨true, D, 0⟩).toArray rfl rfl (by simpa [refV_length HF2.out] using hS5.2) (by rw [size41]; simp [refV_length HF2.out]) (refV_one _) ?_
        have hS6 : (w5.setCells w.heap.size 0 (refV ⟨true, D, 0⟩).toArray.toList).rangeAt (w.heap.size + 1) 0 (refV ⟨true, D, 0⟩) ∧ (w5.setCells w.heap.size 0 (refV ⟨true, D, 0⟩).toArray.toList).there w.heap.size 0 34 :=
          ⟨World.rangeAt_setCells_apart hS5.1 _ _ _ (.inl (by omega)), World.there_setCells hS5.2 _ _ _⟩
        refine hK.out _ _ hS6 (fun hHeld => ?_)
        clear hK K
        try simp only [Act.put, List.setIfInBounds_toArray, List.set_cons_zero, List.set_cons_succ]
        refine wpAnyH_ready (rs := [6]) (by kernel_rfl) (by simp) (AllReadyH.cons rfl (fun K hK => ?_) AllReadyH.nil)
        go_simp
        refine hK.out _ _ hS6 (fun hHeld => ?_)
        clear hK K
        refine wpAnyH_done (by kernel_rfl) ?_ _
        have hfin : (w5.setCells w.heap.size 0 (refV ⟨true, D, 0⟩).toArray.toList).heap[w.heap.size]? = some (.cells (refV ⟨true, D, 0⟩).toArray 41) := by
          have := heap_setCells (refV ⟨true, D, 0⟩) [] (refV zeroR) [] w5 (by rw [refV_length HF2.out, refV_length zeroR_fits]) (by simpa using HT4.out.1)
          simpa using this
        have HFIN := Lib.hid hfin
        have HBE := Lib.hid (below_setCells' (Nat.le_refl _) (refV ⟨true, D, 0⟩).toArray.toList 0 HT4.out.2.2)
        clear hfin hS6 hHeld hS5 hS0 HLD
        generalize w5.setCells w.heap.size 0 (refV ⟨true, D, 0⟩).toArray.toList = w6 at *
        go_wp2
        refine bodyPost_ret_by (results_ref rfl _ _ w.heap.size ⟨true, D, 0⟩ _ HF2.out rfl HFIN.out rfl) rfl ?_
        obtain ⟨i1, i2⟩ := HIS.out ⟨true, D, 0⟩ rfl
        refine RefPost.is HF2.out ?_ i2 HBE.out
        rw [i1, ByteArray.toList_eq]
end Go.Proofs.YtolaecdopfmbgaaDoor
