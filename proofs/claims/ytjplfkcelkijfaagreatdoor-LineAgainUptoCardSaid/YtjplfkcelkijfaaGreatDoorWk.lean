/- line.take: a part taken into an operation. Condition: a word of at most 8388608 bytes; what lies in variables. -/
import Derived.Deep.CutRange
import Derived.Deep.RegionLaw
import Derived.Test.YtjplfkcelkijfaaGreatDoorWj
namespace Go.Proofs.YtjplfkcelkijfaaGreatDoor
open Go.RowKit

/-- an operation lies in a block, its data elsewhere -/
structure OpIn (w : World) (g : Nat) (x : OpV) : Prop where
  row : ∃ A cap, w.heap[g]? = some (.cells (opV x (.slice A x.b.length cap)).toArray 26 (0, 0)) ∧ CellsIn w A (Lib.byteCells x.b) ∧ ∀ a, A = some a → g < a.block
  d : x.d.length = 32

theorem grown_of_below {w w1 : World} (h : Below w.heap.size w w1) (g : Nat) : w.grownBy w1 (some g) := ⟨h.os, h.tape, h.output, h.size, fun i hi _ => h.block i hi⟩
theorem grown_set {w w1 : World} {g : Nat} (h : w.grownBy w1 (some g)) (j : Nat) (v : Value) : w.grownBy (w1.setCell ⟨g, j, none⟩ v) (some g) :=
  ⟨h.os, h.tape, h.output, by rw [World.size_setCell]; exact h.size, fun i hi hne => (Below.heap_setCell w1 ⟨g, j, none⟩ v i (fun e => hne (by rw [show i = g from e]))).trans (h.block i hi hne)⟩
theorem cells_far {w w' : World} {g : Nat} {A : Option Addr} {cs : List Value} (h : CellsIn w A cs) (hg : w.grownBy w' (some g)) (ha : ∀ a, A = some a → a.block ≠ g) : CellsIn w' A cs := fun k v hk => by
  obtain ⟨b, o, e, hc⟩ := h k v hk
  exact ⟨b, o, e, hg.cell hc (fun e' => ha _ e (by injection e'))⟩
theorem opIn_set {w w1 : World} {g j : Nat} {x x' : OpV} {u : Value} {A : Option Addr} {cap : Nat} (hb : Below w.heap.size w w1) (hr : w1.heap[g]? = some (.cells (opV x (.slice A x.b.length cap)).toArray 26 (0, 0)))
    (hc : CellsIn w A (Lib.byteCells x.b)) (ha : ∀ a, A = some a → g < a.block) (hd : x'.d.length = 32) (hbb : x'.b = x.b)
    (he : (opV x (.slice A x.b.length cap)).set j u = opV x' (.slice A x.b.length cap)) : OpIn (w1.setCell ⟨g, j, none⟩ u) g x' ∧ w.grownBy (w1.setCell ⟨g, j, none⟩ u) (some g) := by
  have hg := grown_set (grown_of_below hb g) j u
  refine ⟨⟨⟨A, cap, ?_, ?_, ha⟩, hd⟩, hg⟩
  · rw [heap_setCell_same w1 g j _ 26 u hr, List.setIfInBounds_toArray, he, hbb]
  · rw [hbb]; exact cells_far hc hg fun a e => Nat.ne_of_gt (ha a e)

theorem heap_setCells_at (g : Nat) (t : TypeId) : ∀ (vs : List Value) (o : Nat) (w : World) (pre mid post : List Value), w.heap[g]? = some (.cells (pre ++ (mid ++ post)).toArray t (0, 0)) → pre.length = o → mid.length = vs.length →
    (w.setCells g o vs).heap[g]? = some (.cells (pre ++ (vs ++ post)).toArray t (0, 0))
  | [], o, w, pre, mid, post, h, _, hm => by
    have : mid = [] := List.eq_nil_of_length_eq_zero hm
    subst this; exact h
  | v :: r, o, w, pre, [], post, h, _, hm => by simp at hm
  | v :: r, o, w, pre, m :: mid, post, h, hp, hm => by
    have h1 := heap_setCell_same w g o _ t v h
    have e : (pre ++ (m :: mid ++ post)).toArray.setIfInBounds o v = ((pre ++ [v]) ++ (mid ++ post)).toArray := by
      rw [List.setIfInBounds_toArray, List.set_append_right _ _ (by omega), hp, Nat.sub_self]
      simp
    rw [e] at h1
    have := heap_setCells_at g t r (o + 1) (w.setCell ⟨g, o, none⟩ v) (pre ++ [v]) mid post h1 (by simp; omega) (by simpa using hm)
    show ((w.setCell ⟨g, o, none⟩ v).setCells g (o + 1) r).heap[g]? = _
    rw [this]; simp
theorem grown_setCells {w : World} {g : Nat} : ∀ (vs : List Value) (o : Nat) (w1 : World), w.grownBy w1 (some g) → w.grownBy (w1.setCells g o vs) (some g)
  | [], _, _, h => h
  | v :: r, o, w1, h => grown_setCells r (o + 1) _ (grown_set h o v)
theorem there_dig {w : World} {g : Nat} {x : OpV} {v : Value} {D : List UInt8} (h : w.heap[g]? = some (.cells (opV x v).toArray 26 (0, 0))) (hd : x.d.length = 32) (hD : D.length = 32) : w.there g 5 (digV D).toArray.size := fun j hj => by
  have hj32 : j < 32 := by simpa [digV_length, hD] using hj
  refine ⟨?_, frozen_of_row _ _ _ _ _ h⟩
  rw [cell_of_row _ _ (5 + j) _ _ _ h, List.getElem?_toArray, List.getElem?_eq_getElem (by rw [opV_length _ _ hd]; omega)]; rfl
theorem opV_split (x : OpV) (v : Value) : opV x v = [.int .i64 x.k, .int .i64 x.i, .int .i64 x.o, .int .i64 x.n, .string ⟨x.t.toArray⟩] ++ (digV x.d ++ [v]) := rfl

set_option maxHeartbeats 2000000 in
set_option maxRecDepth 100000 in
theorem take_calls (x : OpV) (g : Nat) (p : Nat) (s : ByteArray) (w0 w : World) (h0 : Below w0.heap.size w0 w) (hE : Env w0) (hg : w0.heap.size ≤ g) (hx : OpIn w g x) (hs : s.size ≤ 8388608) (hp : p ≤ 5) :
    Calls Tryz.prog 20 #[.pointer (some ⟨g, 0, none⟩), .int .i64 p, .string s] w fun e w' => e = .returned (.int .i64 (takeV x p s.data.toList).2) ∧ ((takeV x p s.data.toList).2 = 0 → OpIn w' g (takeV x p s.data.toList).1) ∧ w.grownBy w' (some g) := by
  have hpc : p = 0 ∨ p = 1 ∨ p = 2 ∨ p = 3 ∨ p = 4 ∨ p = 5 := by omega
  have HN := Lib.hid (fun W h => number_calls s W hs h)
  have HT := Lib.hid (fun W => ltag_calls s W hs)
  have HD := Lib.hid (fun W => data_calls s W hs)
  have HG := Lib.hid (fun W => digRead_calls s W (by omega))
  obtain ⟨⟨A, cap, hrow, hcells, hap⟩, hd⟩ := hx
  have HROW := Lib.hid hrow
  have hlt := lt_of_block hrow
  rcases hpc with rfl | rfl | rfl | rfl | rfl | rfl
  · have HEw := Lib.hid (hE.below h0)
    clear hrow hp
    go_enter Tryz.func20, Tryz.ntmps20
    go_wp2_with (first | (go_at_call 45; refine (HN.out _ HEw.out).mono ?_; rintro e w1 ⟨rfl, hb1⟩; have hr1 := (hb1.block g hlt).trans HROW.out; have c1 : w1.cell? ⟨g, 1, none⟩ = some (.int .i64 x.i) := (cell_of_row _ _ 1 _ _ _ hr1).trans rfl; have f1 := frozen_of_row _ _ 1 _ _ hr1))
    go_ret
    have hst := opIn_set (j := 1) (x' := (takeV x 0 s.data.toList).1) (u := .int .i64 (numV s.data.toList).1) hb1 hr1 hcells hap hd rfl rfl
    exact ⟨rfl, fun _ => hst.1, hst.2⟩
  · have HEw := Lib.hid (hE.below h0)
    clear hrow hp
    go_enter Tryz.func20, Tryz.ntmps20
    go_wp2_with (first | (go_at_call 45; refine (HN.out _ HEw.out).mono ?_; rintro e w1 ⟨rfl, hb1⟩; have hr1 := (hb1.block g hlt).trans HROW.out; have c1 : w1.cell? ⟨g, 2, none⟩ = some (.int .i64 x.o) := (cell_of_row _ _ 2 _ _ _ hr1).trans rfl; have f1 := frozen_of_row _ _ 2 _ _ hr1))
    go_ret
    have hst := opIn_set (j := 2) (x' := (takeV x 1 s.data.toList).1) (u := .int .i64 (numV s.data.toList).1) hb1 hr1 hcells hap hd rfl rfl
    exact ⟨rfl, fun _ => hst.1, hst.2⟩
  · have HEw := Lib.hid (hE.below h0)
    clear hrow hp
    go_enter Tryz.func20, Tryz.ntmps20
    go_wp2_with (first | (go_at_call 45; refine (HN.out _ HEw.out).mono ?_; rintro e w1 ⟨rfl, hb1⟩; have hr1 := (hb1.block g hlt).trans HROW.out; have c1 : w1.cell? ⟨g, 3, none⟩ = some (.int .i64 x.n) := (cell_of_row _ _ 3 _ _ _ hr1).trans rfl; have f1 := frozen_of_row _ _ 3 _ _ hr1))
    go_ret
    have hst := opIn_set (j := 3) (x' := (takeV x 2 s.data.toList).1) (u := .int .i64 (numV s.data.toList).1) hb1 hr1 hcells hap hd rfl rfl
    exact ⟨rfl, fun _ => hst.1, hst.2⟩
  · clear hrow hp
    have he : (takeV x 3 s.data.toList).2 = (tagV s.data.toList).2 ∧ ((takeV x 3 s.data.toList).2 = 0 → (takeV x 3 s.data.toList).1 = { x with t := (tagV s.data.toList).1 }) := by
      unfold takeV tagV
      simp only
      by_cases h : s.data.toList.head? = some 61 ∧ (s.data.toList.tail = [] ∨ tagOk s.data.toList.tail = true)
      · rw [if_pos h, if_pos h]; exact ⟨rfl, fun _ => rfl⟩
      · rw [if_neg h, if_neg h]; exact ⟨rfl, fun h => by simp at h⟩
    rw [he.1]
    have HE := Lib.hid he.2
    rw [he.1] at HE
    clear he
    go_enter Tryz.func20, Tryz.ntmps20
    go_wp2_with (first | (go_at_call 46; refine (HT.out _).mono ?_; rintro e w1 ⟨rfl, hb1⟩; have hr1 := (hb1.block g hlt).trans HROW.out; have c1 : w1.cell? ⟨g, 4, none⟩ = some (.string ⟨x.t.toArray⟩) := (cell_of_row _ _ 4 _ _ _ hr1).trans rfl; have f1 := frozen_of_row _ _ 4 _ _ hr1))
    go_ret
    have hst := opIn_set (j := 4) (x' := { x with t := (tagV s.data.toList).1 }) (u := .string ⟨(tagV s.data.toList).1.toArray⟩) hb1 hr1 hcells hap hd rfl rfl
    exact ⟨rfl, fun h => by rw [HE.out h]; exact hst.1, hst.2⟩
  · clear hrow hp
    have he : (takeV x 4 s.data.toList).2 = (if digOk s.data.toList then 0 else 3) ∧ ((takeV x 4 s.data.toList).2 = 0 → (takeV x 4 s.data.toList).1 = { x with d := digD s.data.toList }) := by
      unfold takeV
      simp only
      by_cases h : digOk s.data.toList = true
      · rw [if_pos h, if_pos h]; exact ⟨rfl, fun _ => rfl⟩
      · rw [if_neg h, if_neg h]; exact ⟨rfl, fun h => by simp at h⟩
    rw [he.1]
    have HE := Lib.hid he.2
    rw [he.1] at HE
    have hdl := digD_length s.data.toList
    have HDL := Lib.hid hdl
    have HSZ : Hid ((Tryz.prog.info? 23).map (·.size) = some (digV (digD s.data.toList)).toArray.size) := by unfold Hid; rw [size23]; simp [digV_length, hdl]
    unfold DigPost at HG
    have H1 := Lib.hid (digV_one (digD s.data.toList))
    clear he hdl
    generalize (if digOk s.data.toList then (0 : Int) else 3) = er at *
    generalize digD s.data.toList = D at *
    go_enter Tryz.func20, Tryz.ntmps20
    go_wp2_with (first | (go_at_call 47; refine (HG.out _).mono ?_; rintro e w1 ⟨rfl, hb1⟩; have hr1 := (hb1.block g hlt).trans HROW.out; have HR1 := Lib.hid hr1; have hth : w1.there g 5 (digV D).toArray.size := there_dig hr1 hd HDL.out; have HTH := Lib.hid hth; clear hth hr1) | (refine wpList_store_mid rfl 23 _ _ rfl g 5 (digV D).toArray rfl rfl HTH.out HSZ.out H1.out ?_))
    go_ret
    have hgr := grown_setCells (digV D) 5 w1 (grown_of_below hb1 g)
    refine ⟨rfl, fun h => ?_, hgr⟩
    rw [HE.out h]
    refine ⟨⟨A, cap, ?_, cells_far hcells hgr (fun a e => Nat.ne_of_gt (hap a e)), hap⟩, HDL.out⟩
    have h1 := HR1.out
    rw [opV_split] at h1
    have h2 := heap_setCells_at g 26 (digV D) 5 w1 _ (digV x.d) [.slice A x.b.length cap] h1 rfl (by rw [digV_length, digV_length, hd, HDL.out])
    rw [h2]
    rfl
  · clear hrow hp
    have he : (takeV x 5 s.data.toList).2 = (dataV s.data.toList).2 ∧ ((takeV x 5 s.data.toList).2 = 0 → (takeV x 5 s.data.toList).1 = { x with b := (dataV s.data.toList).1 }) := by
      unfold takeV dataV
      simp only
      by_cases h : s.data.toList.head? = some 120 ∧ hexOk s.data.toList.tail = true
      · rw [if_pos h, if_pos h]; exact ⟨rfl, fun _ => rfl⟩
      · rw [if_neg h, if_neg h]; exact ⟨rfl, fun h => by simp at h⟩
    rw [he.1]
    have HE := Lib.hid he.2
    rw [he.1] at HE
    clear he
    have h37 : (opV x (.slice A x.b.length cap))[37]? = some (.slice A x.b.length cap) := by
      show (digV x.d ++ [Value.slice A x.b.length cap])[32]? = _
      rw [List.getElem?_append_right (by rw [digV_length, hd]; exact Nat.le_refl _), digV_length, hd]; rfl
    have H37 := Lib.hid h37
    clear h37
    go_enter Tryz.func20, Tryz.ntmps20
    go_wp2_with (first | (go_at_call 48; refine (HD.out _).mono ?_; rintro e w1 ⟨A2, cap2, rfl, hc2, hb1, hlow⟩; have hr1 := (hb1.block g hlt).trans HROW.out; have c1 : w1.cell? ⟨g, 37, none⟩ = some (.slice A x.b.length cap) := (by rw [cell_of_row _ _ 37 _ _ _ hr1, List.getElem?_toArray]; exact H37.out); have f1 := frozen_of_row _ _ 37 _ _ hr1))
    go_ret
    have hgr := grown_set (grown_of_below hb1 g) 37 (.slice A2 (dataV s.data.toList).1.length cap2)
    refine ⟨rfl, fun h => ?_, hgr⟩
    rw [HE.out h]
    have ha2 : ∀ a, A2 = some a → g < a.block := fun a e => by have := hlow a e; omega
    refine ⟨⟨A2, cap2, ?_, ?_, ha2⟩, hd⟩
    · rw [heap_setCell_same w1 g 37 _ 26 _ hr1, List.setIfInBounds_toArray]
      congr 3
      show Value.int .i64 x.k :: _ :: _ :: _ :: _ :: (digV x.d ++ [Value.slice A x.b.length cap]).set 32 _ = _
      rw [List.set_append_right _ _ (by rw [digV_length, hd]; exact Nat.le_refl _), digV_length, hd]
      rfl
    · exact cells_far hc2 (grown_set ⟨rfl, rfl, rfl, Nat.le_refl _, fun _ _ _ => rfl⟩ 37 _) fun a e => Nat.ne_of_gt (ha2 a e)
end Go.Proofs.YtjplfkcelkijfaaGreatDoor
