/- manifest.ref: for every line of at most 140737488351232 bytes. -/
import Derived.Lib.CutLaws
import Derived.Deep.Cut
import Derived.Test.YtolaecdopfmbgaaDoorPa
namespace Go.Proofs.YtolaecdopfmbgaaDoor
open Go.RowKit

def manP : List UInt8 := [109, 97, 110, 105, 102, 101, 115, 116, 32]
def blobP : List UInt8 := [98, 108, 111, 98, 32]
def cutS (l : List UInt8) : List UInt8 × List UInt8 × Bool := Lib.cut (Lib.trimPrefix l blobP) [32]
/-- the reference of a line -/
def refS (l : List UInt8) : Option Rf :=
  if Lib.hasPrefix l manP then (if digOk (Lib.trimPrefix l manP) then some ⟨true, digD (Lib.trimPrefix l manP), 0⟩ else none)
  else if Lib.hasPrefix l blobP && ((cutS l).2.2 && digOk (cutS l).1) then (sizeV (cutS l).2.1).map fun v => ⟨false, digD (cutS l).1, v⟩ else none
def RefPost (l : List UInt8) (w : World) (e : Ending) (w' : World) : Prop :=
  ∃ r : Rf, r.fits ∧ e = .returned (.tuple #[.agg (refV r).toArray, .bool (refS l).isSome]) ∧ (∀ x, refS l = some x → r = x) ∧ Below w.heap.size w w'
theorem results_ref {fn : Func} {p u : Tmp} (h : fn.results = #[.cell p 41, .tmp u]) (tmps : Array Value) (w : World) (g : Nat) (r : Rf) (x : Value) (hr : r.fits)
    (hp : tmps.getD p undef = .pointer (some ⟨g, 0, none⟩)) (hg : w.heap[g]? = some (.cells (refV r).toArray 41)) (hx : tmps.getD u undef = x) : (results fn tmps).run Tryd.prog w = .ok (.tuple #[.agg (refV r).toArray, x]) w := by
  rw [results_cell_tmp h, hp, hx]
  have h1 : (asAddr (.pointer (some ⟨g, 0, none⟩))).run Tryd.prog w = .ok ⟨g, 0, none⟩ w := by simp [asAddr]
  rw [h1, Result.andThen_ok, run_loadVar_row w g 41 41 (refV r).toArray (0, 0) _ hg Tryd.underlying41 rfl (by rw [size41]; simp [refV_length hr]), Result.andThen_ok]
/-- a reference is written whole -/
theorem wpList_store_refat {ops : Array Oper} {rest : List Oper} {a : Act} {w : World} {Q : Exit → Act → World → Prop} {d : Option Tmp} {x y : Tmp} {ty : TypeId} {pos : String} {after : Array Edge}
    (g : Nat) (r r0 : Rf) (hf : r.fits) (hf0 : r0.fits) (hx : a.tmps.getD x undef = .pointer (some ⟨g, 0, none⟩)) (hy : a.tmps.getD y undef = .agg (refV r).toArray)
    (hg : w.heap[g]? = some (.cells (refV r0).toArray 41))
    (h : wpList Tryd.prog ops Q rest (a.put d undef) (w.setRow g (refV r).toArray)) :
    wpList Tryd.prog ops Q ({ dst := d, op := .store 41 (.tmp x) (.tmp y), type := ty, pos := pos, after := after, guard := none } :: rest) a w :=
  wpList_store_row rfl 41 (.tmp x) (.tmp y) rfl g (refV r).toArray hx hy 41 (refV r0).toArray hg (by rw [size41]; simp [refV_length hf]) (by simp [refV_length hf, refV_length hf0]) (refV_one r) h

/-- a digest is written whole where one was just made -/
theorem wpList_store_dignew {ops : Array Oper} {rest : List Oper} {a : Act} {Q : Exit → Act → World → Prop} {d : Option Tmp} {x y : Tmp} {ty : TypeId} {pos : String} {after : Array Edge}
    (W : World) (l l0 : List UInt8) (hf : l.length = 32) (hf0 : l0.length = 32) (hx : a.tmps.getD x undef = .pointer (some ⟨W.heap.size, 0, none⟩)) (hy : a.tmps.getD y undef = .agg (digV l).toArray)
    (h : wpList Tryd.prog ops Q rest (a.put d undef) (W.alloc (.cells (digV l).toArray 39))) :
    wpList Tryd.prog ops Q ({ dst := d, op := .store 39 (.tmp x) (.tmp y), type := ty, pos := pos, after := after, guard := none } :: rest) a (W.alloc (.cells (digV l0).toArray 39)) := by
  refine wpList_store_dig W.heap.size l l0 hf hf0 hx hy (heap_alloc_new W _) ?_
  rw [World.setRow_alloc_new]
  exact h
theorem cut_le (l p : List UInt8) : (Lib.cut l p).1.length ≤ l.length ∧ (Lib.cut l p).2.1.length ≤ l.length := by
  unfold Lib.cut
  split
  · simp only [List.length_take, List.length_drop]; omega
  · simp
def digE (s : List UInt8) : Int := if digOk s then 0 else 3
theorem digE_ok (s : List UInt8) : (digE s == 0) = digOk s := by unfold digE; cases digOk s <;> rfl
theorem digRead_calls' (l : List UInt8) (w : World) (hs : l.length ≤ 140737488351232) :
    Calls Tryd.prog 56 #[.string ⟨l.toArray⟩] w fun e w' => e = .returned (.tuple #[.agg (digV (digD l)).toArray, .int .i64 (digE l)]) ∧ Below w.heap.size w w' := by
  refine (digRead_calls ⟨l.toArray⟩ w (by show l.toArray.size ≤ _; simpa using hs)).mono ?_
  rintro e w' ⟨he, hb⟩
  simp only at he
  exact ⟨he, hb⟩
theorem RefPost.is {l : List UInt8} {w w' : World} {r : Rf} {q : Bool} (hr : r.fits) (hq : (refS l).isSome = q) (h : ∀ x, refS l = some x → r = x) (hb : Below w.heap.size w w') : RefPost l w (.returned (.tuple #[.agg (refV r).toArray, .bool q])) w' :=
  ⟨r, hr, by rw [hq], h, hb⟩

set_option maxHeartbeats 2000000 in
set_option maxRecDepth 100000 in
theorem ref_calls (s : ByteArray) (w : World) (hs : s.size ≤ 140737488351232) (hE : Env w) :
    Calls Tryd.prog 32 #[.string s] w (RefPost s.data.toList w) := by
  have hls : s.data.toList.length = s.size := by simp
  have htl : ∀ p, (Lib.trimPrefix s.data.toList p).length ≤ s.size := fun p => by
    unfold Lib.trimPrefix
    split
    · rw [List.length_drop]; omega
    · omega
  cases hM : Lib.hasPrefix s.data.toList manP with
  | true =>
    have hm : Lib.hasPrefix s.data.toList [109, 97, 110, 105, 102, 101, 115, 116, 32] = true := hM
    have H56 := Lib.hid (digRead_calls' (Lib.trimPrefix s.data.toList manP) · (by have := htl manP; omega))
    have HDE := Lib.hid (digE_ok (Lib.trimPrefix s.data.toList manP))
    have HDL := Lib.hid (digD_length (Lib.trimPrefix s.data.toList manP))
    have HRS := Lib.hid (show refS s.data.toList = if digOk (Lib.trimPrefix s.data.toList manP) then some ⟨true, digD (Lib.trimPrefix s.data.toList manP), 0⟩ else none by unfold refS; rw [hM, if_pos rfl])
    clear hls htl hs hM hE
    generalize hT : Lib.trimPrefix s.data.toList manP = T at *
    have HTT := Lib.hid hT
    have hT2 : Lib.trimPrefix s.data.toList [109, 97, 110, 105, 102, 101, 115, 116, 32] = T := hT
    clear hT
    go_enter Tryd.func32, Tryd.ntmps32
    go_upto_region 4 with (first | (with_reducible refine wpList_alloc_ref ?_) | (go_at_call 55; refine (Tryd.strings_CutPrefix _ _ _).mono ?_; rintro e w1 ⟨rfl, rfl⟩) | (go_at_call 56; refine (H56.out _).mono ?_; rintro e w1 ⟨rfl, hb⟩) | (with_reducible refine wpList_alloc_dig ?_) | ((with_reducible apply wpList_store_dignew w1 (digD T) zeroD HDL.out zeroD_length); rfl; rfl))
    have hr0 : w1.heap[w.heap.size]? = some (.cells (refV zeroR).toArray 41) := (hb.block _ (by simp)).trans (heap_alloc_new w _)
    have hbw : Below w.heap.size w w1 := ((Below.refl _ _).alloc (Nat.le_refl _) _).trans (hb.mono (by simp))
    have hlt0 : w.heap.size < w1.heap.size := (Array.getElem?_eq_some_iff.1 hr0).1
    have hr2 : (w1.alloc (.cells (digV (digD T)).toArray 39)).heap[w.heap.size]? = some (.cells (refV zeroR).toArray 41) := (Lib.alloc_old w1 _ _ hlt0).trans hr0
    have hft : (⟨true, digD T, 0⟩ : Rf).fits := ⟨HDL.out, by simp, by simp⟩
    have HFT := Lib.hid hft
    have HR2 := Lib.hid hr2
    have HR3 := Lib.hid (setRow_heap _ w.heap.size _ (refV ⟨true, digD T, 0⟩).toArray 41 (0, 0) hr2)
    have HB2 := Lib.hid (below_setRow (hbw.alloc hbw.size (.cells (digV (digD T)).toArray 39)) (Nat.le_refl _) (refV ⟨true, digD T, 0⟩).toArray)
    have hde := HDE.out
    clear hr0 hbw hlt0 hr2 hft hb
    go_wp2_with (first | ((with_reducible apply wpList_load_dig w1.heap.size 0 (digD T)); rfl; exact rangeAt_new _ _ _; exact HDL.out) | ((with_reducible apply wpList_build_ref1 (digD T) HDL.out); rfl) | ((with_reducible apply wpList_store_refat w.heap.size ⟨true, digD T, 0⟩ zeroR HFT.out zeroR_fits); rfl; rfl; exact HR2.out))
    refine bodyPost_ret_by (results_ref rfl _ _ w.heap.size ⟨true, digD T, 0⟩ _ HFT.out rfl HR3.out rfl) rfl ?_
    refine RefPost.is HFT.out ?_ ?_ HB2.out
    · rw [HRS.out]; cases digOk T <;> rfl
    · intro x hx
      rw [HRS.out] at hx
      split at hx
      · simpa using hx
      · cases hx
  | false =>
    have hm : Lib.hasPrefix s.data.toList [109, 97, 110, 105, 102, 101, 115, 116, 32] = false := hM
    have HRS := Lib.hid (show refS s.data.toList = if Lib.hasPrefix s.data.toList blobP && ((cutS s.data.toList).2.2 && digOk (cutS s.data.toList).1) then (sizeV (cutS s.data.toList).2.1).map fun v => ⟨false, digD (cutS s.data.toList).1, v⟩ else none by unfold refS; rw [hM]; rfl)
    unfold cutS at HRS
    have hT2 : Lib.trimPrefix s.data.toList [98, 108, 111, 98, 32] = Lib.trimPrefix s.data.toList blobP := rfl
    have hP2 : Lib.hasPrefix s.data.toList [98, 108, 111, 98, 32] = Lib.hasPrefix s.data.toList blobP := rfl
    have htl2 := htl blobP
    generalize Lib.trimPrefix s.data.toList blobP = T at *
    generalize Lib.hasPrefix s.data.toList blobP = PB at *
    have hb0 : Below w.heap.size w (w.alloc (.cells (refV zeroR).toArray 41)) := (Below.refl _ _).alloc (Nat.le_refl _) _
    have H54 := Lib.hid (cut_calls T 32 (w.alloc (.cells (refV zeroR).toArray 41)) (by omega))
    have hcl := cut_le T [32]
    generalize hC : Lib.cut T [32] = C at *
    obtain ⟨c1, c2, cb⟩ := C
    simp only at hcl
    have H56 := Lib.hid (digRead_calls' c1 · (by omega))
    have HDE := Lib.hid (digE_ok c1)
    have HDL := Lib.hid (digD_length c1)
    have H57 := Lib.hid (size_calls ⟨c2.toArray⟩ · (by show c2.toArray.size ≤ _; simp; omega))
    have HE := Lib.hid hE
    have HB0 := Lib.hid hb0
    clear hls htl hs hM hE hb0 hC htl2 hcl
    go_enter Tryd.func32, Tryd.ntmps32
    go_upto_region 9 with (first | (with_reducible refine wpList_alloc_ref ?_) | (go_at_call 55; refine (Tryd.strings_CutPrefix _ _ _).mono ?_; rintro e w1 ⟨rfl, rfl⟩) | (go_at_call 54; refine H54.out.mono ?_; rintro e w0 ⟨rfl, nq, rfl⟩; have hbn := below_drewN HB0.out nq) | (go_at_call 56; refine (H56.out _).mono ?_; rintro e w1 ⟨rfl, hb⟩; have hbw : Below w.heap.size w w1 := hbn.trans (hb.mono hbn.size); have hb4 := hbw.alloc hbw.size (.cells (digV (digD c1)).toArray 39)) | (with_reducible refine wpList_alloc_dig ?_) | ((with_reducible apply wpList_store_dignew w1 (digD c1) zeroD HDL.out zeroD_length); rfl; rfl) | (go_at_call 57; refine (H57.out _ (HE.out.below hb4)).mono ?_; rintro e w2 ⟨nn, rfl, hnn, hn1, hn2, hb2⟩))
    have hr0 : w1.heap[w.heap.size]? = some (.cells (refV zeroR).toArray 41) := (hb.block _ (by show w.heap.size < (w.alloc (.cells (refV zeroR).toArray 41)).heap.size; simp)).trans (heap_alloc_new w _)
    have hlt0 : w.heap.size < w1.heap.size := (Array.getElem?_eq_some_iff.1 hr0).1
    have hr2 : w2.heap[w.heap.size]? = some (.cells (refV zeroR).toArray 41) := (hb2.block _ (by simp; omega)).trans ((Lib.alloc_old w1 _ _ hlt0).trans hr0)
    have hft : (⟨false, digD c1, nn⟩ : Rf).fits := ⟨HDL.out, hn1, hn2⟩
    have RNG := Lib.hid (rangeAt_below (rangeAt_new w1 (digV (digD c1)) 39) hb2)
    have HFT := Lib.hid hft
    have HR2 := Lib.hid hr2
    have HR3 := Lib.hid (setRow_heap _ w.heap.size _ (refV ⟨false, digD c1, nn⟩).toArray 41 (0, 0) hr2)
    have HB2 := Lib.hid (below_setRow (hb4.trans (hb2.mono hb4.size)) (Nat.le_refl _) (refV ⟨false, digD c1, nn⟩).toArray)
    have hde := HDE.out
    have HNN := Lib.hid hnn
    clear hr0 hlt0 hr2 hft hb hb2 hb4 hbw hbn H57 H56 H54 HDE hnn HB0 HE
    generalize digOk c1 = q at *
    cases PB <;> cases cb <;> cases q
    all_goals
      go_wp2_with (first | ((with_reducible apply wpList_load_dig w1.heap.size 0 (digD c1)); rfl; exact RNG.out; exact HDL.out) | ((with_reducible apply wpList_build_ref2 (digD c1) nn HDL.out); rfl; rfl) | ((with_reducible apply wpList_store_refat w.heap.size ⟨false, digD c1, nn⟩ zeroR HFT.out zeroR_fits); rfl; rfl; exact HR2.out))
      refine bodyPost_ret_by (results_ref rfl _ _ w.heap.size ⟨false, digD c1, nn⟩ _ HFT.out rfl HR3.out rfl) rfl ?_
      refine RefPost.is HFT.out ?_ ?_ HB2.out
      · rw [HRS.out]
        first
          | rfl
          | (cases sizeV c2 <;> rfl)
      · intro x hx
        rw [HRS.out] at hx
        first
          | (cases hx; done)
          | (obtain ⟨v, hv, rfl⟩ := Option.map_eq_some_iff.1 hx
             rw [HNN.out v hv])
end Go.Proofs.YtolaecdopfmbgaaDoor
