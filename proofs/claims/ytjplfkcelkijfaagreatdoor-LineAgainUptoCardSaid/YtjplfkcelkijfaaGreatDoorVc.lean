/- The reference's take: a part taken into an operation. Condition: a word of at most 8388608 bytes. -/
import Derived.Deep.CutRange
import Derived.Test.YtjplfkcelkijfaaGreatDoorVb
namespace Go.Proofs.YtjplfkcelkijfaaGreatDoor
open Go.RowKit

theorem CellsIn.far {w w' : World} {A : Option Addr} {cs : List Value} (h : CellsIn w A cs) (g1 g2 : Nat) (hw : ∀ i, i ≠ g1 → i ≠ g2 → w'.heap[i]? = w.heap[i]?) (ha : ∀ a, A = some a → a.block ≠ g1 ∧ a.block ≠ g2) : CellsIn w' A cs := fun k v hk => by
  obtain ⟨b, o, e, hc⟩ := h k v hk
  exact ⟨b, o, e, (World.cell?_of_block (hw b (ha _ e).1 (ha _ e).2)).trans hc⟩
theorem setRow_far (w : World) (g : Nat) (cs : Array Value) (i : Nat) (h : i ≠ g) : (w.setRow g cs).heap[i]? = w.heap[i]? := setRow_other w g i cs h
theorem opV_set_last (y : OpV) (v u : Value) (hd : y.d.length = 32) : (opV y v).set 37 u = opV y u := by
  show Value.int .i64 y.k :: _ :: _ :: _ :: _ :: (digV y.d ++ [v]).set 32 _ = _
  rw [List.set_append_right _ _ (by rw [digV_length, hd]; exact Nat.le_refl _), digV_length, hd]
  rfl
theorem opV_last (y : OpV) (v : Value) (hd : y.d.length = 32) : (opV y v)[37]? = some v := by
  show (digV y.d ++ [v])[32]? = some v
  rw [List.getElem?_append_right (by rw [digV_length, hd]; exact Nat.le_refl _), digV_length, hd]; rfl
/-- what take answers -/
def OpValA (A0 : Option Addr) (b0 : List UInt8) (n : Nat) (w : World) (v : Value) (x : OpV) : Prop := ∃ A cap, v = .agg (opV x (.slice A x.b.length cap)).toArray ∧ CellsIn w A (Lib.byteCells x.b) ∧ (A = A0 ∧ x.b = b0 ∨ ∀ a, A = some a → n ≤ a.block)
def TakePost (x : OpV) (A0 : Option Addr) (p : Nat) (s : List UInt8) (w : World) (e : Ending) (w' : World) : Prop :=
  ∃ v y, e = .returned (.tuple #[v, .int .i64 (takeV x p s).2]) ∧ OpValA A0 x.b w.heap.size w' v y ∧ y.d.length = 32 ∧ ((takeV x p s).2 = 0 → y = (takeV x p s).1) ∧ Below w.heap.size w w'
/-- the parameter's block and the result's -/
structure TwoOps (w w1 : World) (x : OpV) (v : Value) : Prop where
  row : w1.heap[w.heap.size]? = some (.cells (opV x v).toArray 26 (0, 0))
  res : w1.heap[w.heap.size + 1]? = some (.cells (opV zeroOp (.slice none 0 0)).toArray 26 (0, 0))
  below : Below w.heap.size w w1
theorem twoOps_new (w : World) (x : OpV) (v : Value) : TwoOps w ((w.alloc (.cells (opV x v).toArray 26)).alloc (.cells (opV zeroOp (.slice none 0 0)).toArray 26)) x v := by
  refine ⟨(Below.heap_alloc _ _ _ (by simp)).trans (World.alloc_heap_new _ _), ?_, ((Below.refl _ _).alloc (Nat.le_refl _) _).alloc (by simp) _⟩
  have := World.alloc_heap_new (w.alloc (.cells (opV x v).toArray 26)) (.cells (opV zeroOp (.slice none 0 0)).toArray 26)
  rwa [World.size_alloc] at this
theorem TwoOps.later {w w1 w2 : World} {x : OpV} {v : Value} (h : TwoOps w w1 x v) (hb : Below w1.heap.size w1 w2) : TwoOps w w2 x v :=
  ⟨(hb.block _ (lt_of_block h.row)).trans h.row, (hb.block _ (lt_of_block h.res)).trans h.res, h.below.trans (hb.mono h.below.size)⟩
theorem TwoOps.set {w w1 : World} {x y : OpV} {v v' u : Value} {j : Nat} (h : TwoOps w w1 x v) (he : (opV x v).set j u = opV y v') : TwoOps w (w1.setCell ⟨w.heap.size, j, none⟩ u) y v' := by
  refine ⟨?_, (Below.heap_setCell _ _ _ _ (by show w.heap.size + 1 ≠ w.heap.size; omega)).trans h.res, h.below.setCell (Nat.le_refl _) _⟩
  rw [heap_setCell_same w1 _ j _ 26 u h.row, List.setIfInBounds_toArray, he]
theorem TwoOps.dig {w w1 : World} {x : OpV} {v : Value} {D : List UInt8} (h : TwoOps w w1 x v) (hx : x.d.length = 32) (hD : D.length = 32) : TwoOps w (w1.setCells w.heap.size 5 (digV D)) { x with d := D } v := by
  have hg : w1.grownBy (w1.setCells w.heap.size 5 (digV D)) (some w.heap.size) := grown_setCells (g := w.heap.size) (digV D) 5 w1 ⟨rfl, rfl, rfl, Nat.le_refl _, fun _ _ _ => rfl⟩
  refine ⟨?_, (hg.block _ (lt_of_block h.res) (fun e => by injection e with e; omega)).trans h.res, h.below.grown hg h.below.size (by rintro _ ⟨⟩; exact Nat.le_refl _)⟩
  have h1 := h.row
  rw [opV_split] at h1
  rw [heap_setCells_at w.heap.size 26 (digV D) 5 w1 _ (digV x.d) _ h1 rfl (by rw [digV_length, digV_length, hx, hD])]
  rfl
set_option maxHeartbeats 4000000 in
set_option maxRecDepth 100000 in
theorem refTake_calls (x : OpV) (A : Option Addr) (cap p : Nat) (s : ByteArray) (w : World) (hx : x.d.length = 32) (hA : CellsIn w A (Lib.byteCells x.b)) (hs : s.size ≤ 8388608) (hp : p ≤ 5) :
    Calls Tryz.prog 23 #[.agg (opV x (.slice A x.b.length cap)).toArray, .int .u8 (letT p).toNat, .string s] w (TakePost x A p s.data.toList w) := by
  have hT := twoOps_new w x (.slice A x.b.length cap)
  have hs' : (s.size : Int) ≤ 8388608 := by omega
  have hls : s.data.toList.length = s.size := by simp
  have HN := Lib.hid (fun W => refNumber_calls s W hs)
  have HG := Lib.hid (fun W => refDigRead_calls s W (by omega))
  have HLS := Lib.hid hls
  have HSZ := Lib.hid hs
  have HA := Lib.hid hA
  have hpc : p = 0 ∨ p = 1 ∨ p = 2 ∨ p = 3 ∨ p = 4 ∨ p = 5 := by omega
  clear hs hls hA hp
  rcases hpc with rfl | rfl | rfl | rfl | rfl | rfl
  · have hch : ((letT 0).toNat : Int) = 105 := rfl
    rw [hch]
    go_enter Tryz.func23, Tryz.ntmps23
    go_upto_region 1 with (fail)
    change Code.wp _ _ _ _ ((w.alloc (.cells (opV x (.slice A x.b.length cap)).toArray 26)).alloc (.cells (opV zeroOp (.slice none 0 0)).toArray 26))
    generalize (w.alloc (.cells (opV x (.slice A x.b.length cap)).toArray 26)).alloc (.cells (opV zeroOp (.slice none 0 0)).toArray 26) = w1 at *
    have c1 : w1.cell? ⟨w.heap.size, 1, none⟩ = some (.int .i64 x.i) := (cell_of_row _ _ 1 _ _ _ hT.row).trans rfl
    have f1 := frozen_of_row _ _ 1 _ _ hT.row
    have HT := Lib.hid hT
    clear hT hch
    go_upto_region 18 with (first | (go_at_call 40; refine (HN.out _).mono ?_; rintro e w2 ⟨rfl, rfl⟩))
    have HT2 := Lib.hid (HT.out.set (j := 1) (u := .int .i64 (numV s.data.toList).1) (y := { x with i := (numV s.data.toList).1 }) (v' := .slice A x.b.length cap) rfl)
    generalize w1.setCell ⟨w.heap.size, 1, none⟩ (.int .i64 (numV s.data.toList).1) = w3 at *
    clear c1 f1
    have HL := Lib.hid (opV_length { x with i := (numV s.data.toList).1 } (.slice A x.b.length cap) hx)
    go_wp2_with (first | ((with_reducible apply wpList_load_opG w.heap.size (opV { x with i := (numV s.data.toList).1 } (.slice A x.b.length cap))); rfl; exact rangeAt_of_row HT2.out.row; exact HL.out; rfl) | ((with_reducible apply wpList_store_op (w.heap.size + 1) (cs := (opV { x with i := (numV s.data.toList).1 } (.slice A x.b.length cap))) (c0 := opV zeroOp (.slice none 0 0))); (case hy => rfl); (case hx => rfl); (case hf => exact HL.out); (case hf0 => exact kindOp_len 0); (case h1 => exact opV_one _ _ rfl); (case hg => exact HT2.out.res)))
    refine bodyPost_ret_by (results_op rfl _ _ (w.heap.size + 1) (opV { x with i := (numV s.data.toList).1 } (.slice A x.b.length cap)) _ HL.out rfl (setRow_heap _ _ _ (opV { x with i := (numV s.data.toList).1 } (.slice A x.b.length cap)).toArray _ _ HT2.out.res) rfl) rfl ?_
    exact ⟨_, { x with i := (numV s.data.toList).1 }, rfl, ⟨A, cap, rfl, HA.out.below (below_setRow HT2.out.below (Nat.le_succ _) _), .inl ⟨rfl, rfl⟩⟩, hx, fun _ => rfl, below_setRow HT2.out.below (Nat.le_succ _) _⟩
  · have hch : ((letT 1).toNat : Int) = 111 := rfl
    rw [hch]
    go_enter Tryz.func23, Tryz.ntmps23
    go_upto_region 1 with (fail)
    change Code.wp _ _ _ _ ((w.alloc (.cells (opV x (.slice A x.b.length cap)).toArray 26)).alloc (.cells (opV zeroOp (.slice none 0 0)).toArray 26))
    generalize (w.alloc (.cells (opV x (.slice A x.b.length cap)).toArray 26)).alloc (.cells (opV zeroOp (.slice none 0 0)).toArray 26) = w1 at *
    have c1 : w1.cell? ⟨w.heap.size, 2, none⟩ = some (.int .i64 x.o) := (cell_of_row _ _ 2 _ _ _ hT.row).trans rfl
    have f1 := frozen_of_row _ _ 2 _ _ hT.row
    have HT := Lib.hid hT
    clear hT hch
    go_upto_region 18 with (first | (go_at_call 40; refine (HN.out _).mono ?_; rintro e w2 ⟨rfl, rfl⟩))
    have HT2 := Lib.hid (HT.out.set (j := 2) (u := .int .i64 (numV s.data.toList).1) (y := { x with o := (numV s.data.toList).1 }) (v' := .slice A x.b.length cap) rfl)
    generalize w1.setCell ⟨w.heap.size, 2, none⟩ (.int .i64 (numV s.data.toList).1) = w3 at *
    clear c1 f1
    have HL := Lib.hid (opV_length { x with o := (numV s.data.toList).1 } (.slice A x.b.length cap) hx)
    go_wp2_with (first | ((with_reducible apply wpList_load_opG w.heap.size (opV { x with o := (numV s.data.toList).1 } (.slice A x.b.length cap))); rfl; exact rangeAt_of_row HT2.out.row; exact HL.out; rfl) | ((with_reducible apply wpList_store_op (w.heap.size + 1) (cs := (opV { x with o := (numV s.data.toList).1 } (.slice A x.b.length cap))) (c0 := opV zeroOp (.slice none 0 0))); (case hy => rfl); (case hx => rfl); (case hf => exact HL.out); (case hf0 => exact kindOp_len 0); (case h1 => exact opV_one _ _ rfl); (case hg => exact HT2.out.res)))
    refine bodyPost_ret_by (results_op rfl _ _ (w.heap.size + 1) (opV { x with o := (numV s.data.toList).1 } (.slice A x.b.length cap)) _ HL.out rfl (setRow_heap _ _ _ (opV { x with o := (numV s.data.toList).1 } (.slice A x.b.length cap)).toArray _ _ HT2.out.res) rfl) rfl ?_
    exact ⟨_, { x with o := (numV s.data.toList).1 }, rfl, ⟨A, cap, rfl, HA.out.below (below_setRow HT2.out.below (Nat.le_succ _) _), .inl ⟨rfl, rfl⟩⟩, hx, fun _ => rfl, below_setRow HT2.out.below (Nat.le_succ _) _⟩
  · have hch : ((letT 2).toNat : Int) = 110 := rfl
    rw [hch]
    go_enter Tryz.func23, Tryz.ntmps23
    go_upto_region 1 with (fail)
    change Code.wp _ _ _ _ ((w.alloc (.cells (opV x (.slice A x.b.length cap)).toArray 26)).alloc (.cells (opV zeroOp (.slice none 0 0)).toArray 26))
    generalize (w.alloc (.cells (opV x (.slice A x.b.length cap)).toArray 26)).alloc (.cells (opV zeroOp (.slice none 0 0)).toArray 26) = w1 at *
    have c1 : w1.cell? ⟨w.heap.size, 3, none⟩ = some (.int .i64 x.n) := (cell_of_row _ _ 3 _ _ _ hT.row).trans rfl
    have f1 := frozen_of_row _ _ 3 _ _ hT.row
    have HT := Lib.hid hT
    clear hT hch
    go_upto_region 18 with (first | (go_at_call 40; refine (HN.out _).mono ?_; rintro e w2 ⟨rfl, rfl⟩))
    have HT2 := Lib.hid (HT.out.set (j := 3) (u := .int .i64 (numV s.data.toList).1) (y := { x with n := (numV s.data.toList).1 }) (v' := .slice A x.b.length cap) rfl)
    generalize w1.setCell ⟨w.heap.size, 3, none⟩ (.int .i64 (numV s.data.toList).1) = w3 at *
    clear c1 f1
    have HL := Lib.hid (opV_length { x with n := (numV s.data.toList).1 } (.slice A x.b.length cap) hx)
    go_wp2_with (first | ((with_reducible apply wpList_load_opG w.heap.size (opV { x with n := (numV s.data.toList).1 } (.slice A x.b.length cap))); rfl; exact rangeAt_of_row HT2.out.row; exact HL.out; rfl) | ((with_reducible apply wpList_store_op (w.heap.size + 1) (cs := (opV { x with n := (numV s.data.toList).1 } (.slice A x.b.length cap))) (c0 := opV zeroOp (.slice none 0 0))); (case hy => rfl); (case hx => rfl); (case hf => exact HL.out); (case hf0 => exact kindOp_len 0); (case h1 => exact opV_one _ _ rfl); (case hg => exact HT2.out.res)))
    refine bodyPost_ret_by (results_op rfl _ _ (w.heap.size + 1) (opV { x with n := (numV s.data.toList).1 } (.slice A x.b.length cap)) _ HL.out rfl (setRow_heap _ _ _ (opV { x with n := (numV s.data.toList).1 } (.slice A x.b.length cap)).toArray _ _ HT2.out.res) rfl) rfl ?_
    exact ⟨_, { x with n := (numV s.data.toList).1 }, rfl, ⟨A, cap, rfl, HA.out.below (below_setRow HT2.out.below (Nat.le_succ _) _), .inl ⟨rfl, rfl⟩⟩, hx, fun _ => rfl, below_setRow HT2.out.below (Nat.le_succ _) _⟩
  · have hch : ((letT 3).toNat : Int) = 116 := rfl
    rw [hch]
    have HD3 : Hid (takeV x 3 s.data.toList = if s.data.toList.head? = some 61 ∧ (s.data.toList.tail = [] ∨ tagOk s.data.toList.tail = true) then ({ x with t := s.data.toList.tail }, 0) else (x, 3)) := rfl
    have hext : (s.extract 1 s.size).data.toList = s.data.toList.tail := by rw [Lib.extract_data, List.take_of_length_le (by rw [List.length_drop, HLS.out]; omega), List.drop_one]
    have HEXT := Lib.hid hext
    clear hext
    by_cases h0 : (0 : Int) < s.size
    · have hk0 : 0 < s.size := by omega
      have hg := getElem_list s 0 hk0
      rw [← List.head?_eq_getElem?] at hg
      by_cases h61 : s[0] = 61
      · have hq : ((s[0].toNat : Int) != 61) = false := by rw [h61]; rfl
        have hhd : s.data.toList.head? = some 61 := by rw [hg, h61]
        have HHD := Lib.hid hhd
        clear hg h61 hhd
        by_cases h1 : (1 : Int) < s.size
        · have hte : s.data.toList.tail ≠ [] := by
            intro h; have := congrArg List.length h; rw [List.length_tail, HLS.out] at this; simp at this; omega
          have htag := fun W => refTag_calls (s.extract 1 s.size) W (by simp; have := HSZ.out; omega)
          rw [HEXT.out] at htag
          cases hok : tagOk s.data.toList.tail with
          | true =>
            have HE : Hid (takeV x 3 s.data.toList = ({ x with t := s.data.toList.tail }, 0)) := by show _ = _; rw [HD3.out, if_pos ⟨HHD.out, .inr hok⟩]
            rw [hok] at htag
            have HTAG := Lib.hid htag
            clear htag hok hte hch
            go_enter Tryz.func23, Tryz.ntmps23
            go_upto_region 1 with (fail)
            change Code.wp _ _ _ _ ((w.alloc (.cells (opV x (.slice A x.b.length cap)).toArray 26)).alloc (.cells (opV zeroOp (.slice none 0 0)).toArray 26))
            generalize (w.alloc (.cells (opV x (.slice A x.b.length cap)).toArray 26)).alloc (.cells (opV zeroOp (.slice none 0 0)).toArray 26) = w1 at *
            have c1 : w1.cell? ⟨w.heap.size, 4, none⟩ = some (.string ⟨x.t.toArray⟩) := (cell_of_row _ _ 4 _ _ _ hT.row).trans rfl
            have f1 := frozen_of_row _ _ 4 _ _ hT.row
            have HT := Lib.hid hT
            clear hT
            go_upto_region 18 with (first | (go_at_call 16; refine (HTAG.out _).mono ?_; rintro e w2 ⟨rfl, rfl⟩))
            have hst : s.extract 1 s.size = ⟨s.data.toList.tail.toArray⟩ := by apply ByteArray.ext; apply Array.ext'; rw [HEXT.out]
            rw [hst]
            have HT2 := Lib.hid (HT.out.set (j := 4) (u := .string ⟨s.data.toList.tail.toArray⟩) (y := { x with t := s.data.toList.tail }) (v' := .slice A x.b.length cap) rfl)
            generalize w1.setCell ⟨w.heap.size, 4, none⟩ (.string ⟨s.data.toList.tail.toArray⟩) = w3 at *
            clear c1 f1 hst
            have HL := Lib.hid (opV_length { x with t := s.data.toList.tail } (.slice A x.b.length cap) hx)
            go_wp2_with (first | ((with_reducible apply wpList_load_opG w.heap.size (opV { x with t := s.data.toList.tail } (.slice A x.b.length cap))); rfl; exact rangeAt_of_row HT2.out.row; exact HL.out; rfl) | ((with_reducible apply wpList_store_op (w.heap.size + 1) (cs := (opV { x with t := s.data.toList.tail } (.slice A x.b.length cap))) (c0 := opV zeroOp (.slice none 0 0))); (case hy => rfl); (case hx => rfl); (case hf => exact HL.out); (case hf0 => exact kindOp_len 0); (case h1 => exact opV_one _ _ rfl); (case hg => exact HT2.out.res)))
            refine bodyPost_ret_by (results_op rfl _ _ (w.heap.size + 1) (opV { x with t := s.data.toList.tail } (.slice A x.b.length cap)) _ HL.out rfl (setRow_heap _ _ _ (opV { x with t := s.data.toList.tail } (.slice A x.b.length cap)).toArray _ _ HT2.out.res) rfl) rfl ?_
            rw [TakePost, HE.out]
            exact ⟨_, { x with t := s.data.toList.tail }, rfl, ⟨A, cap, rfl, HA.out.below (below_setRow HT2.out.below (Nat.le_succ _) _), .inl ⟨rfl, rfl⟩⟩, hx, fun _ => rfl, below_setRow HT2.out.below (Nat.le_succ _) _⟩
          | false =>
            have HE : Hid ((takeV x 3 s.data.toList).2 = 3) := by show _ = _; rw [HD3.out, if_neg (fun h => by rcases h.2 with h | h; exact hte h; rw [hok] at h; cases h)]
            rw [hok] at htag
            have HTAG := Lib.hid htag
            clear htag hok hte hch
            go_enter Tryz.func23, Tryz.ntmps23
            go_upto_region 1 with (fail)
            change Code.wp _ _ _ _ ((w.alloc (.cells (opV x (.slice A x.b.length cap)).toArray 26)).alloc (.cells (opV zeroOp (.slice none 0 0)).toArray 26))
            generalize (w.alloc (.cells (opV x (.slice A x.b.length cap)).toArray 26)).alloc (.cells (opV zeroOp (.slice none 0 0)).toArray 26) = w1 at *
            have HT2 := Lib.hid hT
            clear hT
            have HL := Lib.hid (opV_length x (.slice A x.b.length cap) hx)
            go_wp2_with (first | (go_at_call 16; refine (HTAG.out _).mono ?_; rintro e w2 ⟨rfl, rfl⟩) | ((with_reducible apply wpList_load_opG w.heap.size (opV x (.slice A x.b.length cap))); rfl; exact rangeAt_of_row HT2.out.row; exact HL.out; rfl) | ((with_reducible apply wpList_store_op (w.heap.size + 1) (cs := (opV x (.slice A x.b.length cap))) (c0 := opV zeroOp (.slice none 0 0))); (case hy => rfl); (case hx => rfl); (case hf => exact HL.out); (case hf0 => exact kindOp_len 0); (case h1 => exact opV_one _ _ rfl); (case hg => exact HT2.out.res)))
            refine bodyPost_ret_by (results_op rfl _ _ (w.heap.size + 1) (opV x (.slice A x.b.length cap)) _ HL.out rfl (setRow_heap _ _ _ (opV x (.slice A x.b.length cap)).toArray _ _ HT2.out.res) rfl) rfl ?_
            rw [TakePost, HE.out]
            exact ⟨_, x, rfl, ⟨A, cap, rfl, HA.out.below (below_setRow HT2.out.below (Nat.le_succ _) _), .inl ⟨rfl, rfl⟩⟩, hx, fun h => by simp at h, below_setRow HT2.out.below (Nat.le_succ _) _⟩
        · have HE : Hid (takeV x 3 s.data.toList = ({ x with t := s.data.toList.tail }, 0)) := by
            show _ = _
            rw [HD3.out, if_pos ⟨HHD.out, .inl (List.eq_nil_of_length_eq_zero (by rw [List.length_tail, HLS.out]; omega))⟩]
          clear hch
          go_enter Tryz.func23, Tryz.ntmps23
          go_upto_region 1 with (fail)
          change Code.wp _ _ _ _ ((w.alloc (.cells (opV x (.slice A x.b.length cap)).toArray 26)).alloc (.cells (opV zeroOp (.slice none 0 0)).toArray 26))
          generalize (w.alloc (.cells (opV x (.slice A x.b.length cap)).toArray 26)).alloc (.cells (opV zeroOp (.slice none 0 0)).toArray 26) = w1 at *
          have c1 : w1.cell? ⟨w.heap.size, 4, none⟩ = some (.string ⟨x.t.toArray⟩) := (cell_of_row _ _ 4 _ _ _ hT.row).trans rfl
          have f1 := frozen_of_row _ _ 4 _ _ hT.row
          have HT := Lib.hid hT
          clear hT
          go_upto_region 18 with (fail)
          have hst : s.extract 1 s.size = ⟨s.data.toList.tail.toArray⟩ := by apply ByteArray.ext; apply Array.ext'; rw [HEXT.out]
          rw [hst]
          have HT2 := Lib.hid (HT.out.set (j := 4) (u := .string ⟨s.data.toList.tail.toArray⟩) (y := { x with t := s.data.toList.tail }) (v' := .slice A x.b.length cap) rfl)
          generalize w1.setCell ⟨w.heap.size, 4, none⟩ (.string ⟨s.data.toList.tail.toArray⟩) = w3 at *
          clear c1 f1 hst
          have HL := Lib.hid (opV_length { x with t := s.data.toList.tail } (.slice A x.b.length cap) hx)
          go_wp2_with (first | ((with_reducible apply wpList_load_opG w.heap.size (opV { x with t := s.data.toList.tail } (.slice A x.b.length cap))); rfl; exact rangeAt_of_row HT2.out.row; exact HL.out; rfl) | ((with_reducible apply wpList_store_op (w.heap.size + 1) (cs := (opV { x with t := s.data.toList.tail } (.slice A x.b.length cap))) (c0 := opV zeroOp (.slice none 0 0))); (case hy => rfl); (case hx => rfl); (case hf => exact HL.out); (case hf0 => exact kindOp_len 0); (case h1 => exact opV_one _ _ rfl); (case hg => exact HT2.out.res)))
          refine bodyPost_ret_by (results_op rfl _ _ (w.heap.size + 1) (opV { x with t := s.data.toList.tail } (.slice A x.b.length cap)) _ HL.out rfl (setRow_heap _ _ _ (opV { x with t := s.data.toList.tail } (.slice A x.b.length cap)).toArray _ _ HT2.out.res) rfl) rfl ?_
          rw [TakePost, HE.out]
          exact ⟨_, { x with t := s.data.toList.tail }, rfl, ⟨A, cap, rfl, HA.out.below (below_setRow HT2.out.below (Nat.le_succ _) _), .inl ⟨rfl, rfl⟩⟩, hx, fun _ => rfl, below_setRow HT2.out.below (Nat.le_succ _) _⟩
      · have hq : ((s[0].toNat : Int) != 61) = true := by
          rw [bne_iff_ne]; intro e; exact h61 (UInt8.toNat_inj.1 (by have : (61 : UInt8).toNat = 61 := rfl; omega))
        have HE : Hid ((takeV x 3 s.data.toList).2 = 3) := by
          show _ = _
          rw [HD3.out, if_neg (fun h => by rw [hg] at h; have := h.1; injection this with this; exact h61 this)]
        clear hg h61 hch
        go_enter Tryz.func23, Tryz.ntmps23
        go_upto_region 1 with (fail)
        change Code.wp _ _ _ _ ((w.alloc (.cells (opV x (.slice A x.b.length cap)).toArray 26)).alloc (.cells (opV zeroOp (.slice none 0 0)).toArray 26))
        generalize (w.alloc (.cells (opV x (.slice A x.b.length cap)).toArray 26)).alloc (.cells (opV zeroOp (.slice none 0 0)).toArray 26) = w1 at *
        have HT2 := Lib.hid hT
        clear hT
        have HL := Lib.hid (opV_length x (.slice A x.b.length cap) hx)
        go_wp2_with (first | ((with_reducible apply wpList_load_opG w.heap.size (opV x (.slice A x.b.length cap))); rfl; exact rangeAt_of_row HT2.out.row; exact HL.out; rfl) | ((with_reducible apply wpList_store_op (w.heap.size + 1) (cs := (opV x (.slice A x.b.length cap))) (c0 := opV zeroOp (.slice none 0 0))); (case hy => rfl); (case hx => rfl); (case hf => exact HL.out); (case hf0 => exact kindOp_len 0); (case h1 => exact opV_one _ _ rfl); (case hg => exact HT2.out.res)))
        refine bodyPost_ret_by (results_op rfl _ _ (w.heap.size + 1) (opV x (.slice A x.b.length cap)) _ HL.out rfl (setRow_heap _ _ _ (opV x (.slice A x.b.length cap)).toArray _ _ HT2.out.res) rfl) rfl ?_
        rw [TakePost, HE.out]
        exact ⟨_, x, rfl, ⟨A, cap, rfl, HA.out.below (below_setRow HT2.out.below (Nat.le_succ _) _), .inl ⟨rfl, rfl⟩⟩, hx, fun h => by simp at h, below_setRow HT2.out.below (Nat.le_succ _) _⟩
    · have HE : Hid ((takeV x 3 s.data.toList).2 = 3) := by
        show _ = _
        have hnil : s.data.toList = [] := List.eq_nil_of_length_eq_zero (by rw [HLS.out]; omega)
        rw [HD3.out, if_neg (fun h => by rw [hnil] at h; cases h.1)]
      clear hch
      go_enter Tryz.func23, Tryz.ntmps23
      go_upto_region 1 with (fail)
      change Code.wp _ _ _ _ ((w.alloc (.cells (opV x (.slice A x.b.length cap)).toArray 26)).alloc (.cells (opV zeroOp (.slice none 0 0)).toArray 26))
      generalize (w.alloc (.cells (opV x (.slice A x.b.length cap)).toArray 26)).alloc (.cells (opV zeroOp (.slice none 0 0)).toArray 26) = w1 at *
      have HT2 := Lib.hid hT
      clear hT
      have HL := Lib.hid (opV_length x (.slice A x.b.length cap) hx)
      go_wp2_with (first | ((with_reducible apply wpList_load_opG w.heap.size (opV x (.slice A x.b.length cap))); rfl; exact rangeAt_of_row HT2.out.row; exact HL.out; rfl) | ((with_reducible apply wpList_store_op (w.heap.size + 1) (cs := (opV x (.slice A x.b.length cap))) (c0 := opV zeroOp (.slice none 0 0))); (case hy => rfl); (case hx => rfl); (case hf => exact HL.out); (case hf0 => exact kindOp_len 0); (case h1 => exact opV_one _ _ rfl); (case hg => exact HT2.out.res)))
      refine bodyPost_ret_by (results_op rfl _ _ (w.heap.size + 1) (opV x (.slice A x.b.length cap)) _ HL.out rfl (setRow_heap _ _ _ (opV x (.slice A x.b.length cap)).toArray _ _ HT2.out.res) rfl) rfl ?_
      rw [TakePost, HE.out]
      exact ⟨_, x, rfl, ⟨A, cap, rfl, HA.out.below (below_setRow HT2.out.below (Nat.le_succ _) _), .inl ⟨rfl, rfl⟩⟩, hx, fun h => by simp at h, below_setRow HT2.out.below (Nat.le_succ _) _⟩
  · have hch : ((letT 4).toNat : Int) = 100 := rfl
    rw [hch]
    have HT4 : Hid ((takeV x 4 s.data.toList).2 = (if digOk s.data.toList then 0 else 3) ∧ ((takeV x 4 s.data.toList).2 = 0 → (takeV x 4 s.data.toList).1 = { x with d := digD s.data.toList })) := by
      show _ ∧ _
      unfold takeV
      simp only
      by_cases h : digOk s.data.toList = true
      · rw [if_pos h, if_pos h]; exact ⟨rfl, fun _ => rfl⟩
      · rw [if_neg h, if_neg h]; exact ⟨rfl, fun h => by simp at h⟩
    have hdl := digD_length s.data.toList
    unfold DigPost at HG
    generalize hD : digD s.data.toList = D at *
    generalize hE : (if digOk s.data.toList then (0 : Int) else 3) = E at *
    have HDL := Lib.hid hdl
    have HSZ2 : Hid ((Tryz.prog.info? 23).map (·.size) = some (digV D).toArray.size) := by show _ = _; rw [size23]; simp [digV_length, hdl]
    have H1 := Lib.hid (digV_one D)
    clear hch hD hE hdl
    go_enter Tryz.func23, Tryz.ntmps23
    go_upto_region 1 with (fail)
    change Code.wp _ _ _ _ ((w.alloc (.cells (opV x (.slice A x.b.length cap)).toArray 26)).alloc (.cells (opV zeroOp (.slice none 0 0)).toArray 26))
    generalize (w.alloc (.cells (opV x (.slice A x.b.length cap)).toArray 26)).alloc (.cells (opV zeroOp (.slice none 0 0)).toArray 26) = w1 at *
    have HT := Lib.hid hT
    clear hT
    go_upto_region 18 with (first | (go_at_call 49; refine (HG.out _).mono ?_; rintro e w2 ⟨rfl, hb2⟩; have HTB := Lib.hid (HT.out.later hb2); have HTH := Lib.hid (there_dig (D := D) HTB.out.row hx HDL.out); clear hb2) | (refine wpList_store_mid rfl 23 _ _ rfl w.heap.size 5 (digV D).toArray rfl rfl HTH.out HSZ2.out H1.out ?_))
    have HT2 : Hid (TwoOps w (w2.setCells w.heap.size 5 (digV D)) { x with d := D } (.slice A x.b.length cap)) := HTB.out.dig hx HDL.out
    change Code.wp _ _ _ _ (w2.setCells w.heap.size 5 (digV D))
    generalize w2.setCells w.heap.size 5 (digV D) = w3 at *
    have HL := Lib.hid (opV_length { x with d := D } (.slice A x.b.length cap) HDL.out)
    go_wp2_with (first | ((with_reducible apply wpList_load_opG w.heap.size (opV { x with d := D } (.slice A x.b.length cap))); rfl; exact rangeAt_of_row HT2.out.row; exact HL.out; rfl) | ((with_reducible apply wpList_store_op (w.heap.size + 1) (cs := (opV { x with d := D } (.slice A x.b.length cap))) (c0 := opV zeroOp (.slice none 0 0))); (case hy => rfl); (case hx => rfl); (case hf => exact HL.out); (case hf0 => exact kindOp_len 0); (case h1 => exact opV_one _ _ rfl); (case hg => exact HT2.out.res)))
    refine bodyPost_ret_by (results_op rfl _ _ (w.heap.size + 1) (opV { x with d := D } (.slice A x.b.length cap)) _ HL.out rfl (setRow_heap _ _ _ (opV { x with d := D } (.slice A x.b.length cap)).toArray _ _ HT2.out.res) rfl) rfl ?_
    unfold TakePost
    rw [HT4.out.1]
    exact ⟨_, { x with d := D }, rfl, ⟨A, cap, rfl, HA.out.below (below_setRow HT2.out.below (Nat.le_succ _) _), .inl ⟨rfl, rfl⟩⟩, HDL.out, fun h => (HT4.out.2 (HT4.out.1.trans h)).symm, below_setRow HT2.out.below (Nat.le_succ _) _⟩
  · have hch : ((letT 5).toNat : Int) = 98 := rfl
    rw [hch]
    have HD5 : Hid (takeV x 5 s.data.toList = if s.data.toList.head? = some 120 ∧ hexOk s.data.toList.tail = true then ({ x with b := hexP s.data.toList.tail }, 0) else (x, 3)) := rfl
    have hext : (s.extract 1 s.size).data.toList = s.data.toList.tail := by rw [Lib.extract_data, List.take_of_length_le (by rw [List.length_drop, HLS.out]; omega), List.drop_one]
    have HEXT := Lib.hid hext
    clear hext
    by_cases h0 : (0 : Int) < s.size
    · have hk0 : 0 < s.size := by omega
      have hg := getElem_list s 0 hk0
      rw [← List.head?_eq_getElem?] at hg
      by_cases h61 : s[0] = 120
      · have hq : ((s[0].toNat : Int) != 120) = false := by rw [h61]; rfl
        have hhd : s.data.toList.head? = some 120 := by rw [hg, h61]
        have hli : (1 : Int) ≤ s.size := by omega
        have HX := fun W => refHexRead_calls (s.extract 1 s.size) W (by simp; have := HSZ.out; omega)
        rw [HEXT.out] at HX
        unfold HexPost at HX
        have HT5 : Hid ((takeV x 5 s.data.toList).2 = (if hexOk s.data.toList.tail then 0 else 3) ∧ ((takeV x 5 s.data.toList).2 = 0 → (takeV x 5 s.data.toList).1 = { x with b := if hexOk s.data.toList.tail then hexP s.data.toList.tail else [] })) := by
          show _ ∧ _
          rw [HD5.out]
          by_cases h : hexOk s.data.toList.tail = true
          · rw [if_pos ⟨hhd, h⟩, if_pos h, if_pos h]; exact ⟨rfl, fun _ => rfl⟩
          · rw [if_neg (fun e => h e.2), if_neg h]; exact ⟨rfl, fun h => by simp at h⟩
        generalize hQ : (if hexOk s.data.toList.tail then hexP s.data.toList.tail else []) = Q at *
        generalize hE : (if hexOk s.data.toList.tail then (0 : Int) else 3) = E at *
        have HXX := Lib.hid HX
        clear HX hg h61 hhd hch hQ hE
        go_enter Tryz.func23, Tryz.ntmps23
        go_upto_region 1 with (fail)
        change Code.wp _ _ _ _ ((w.alloc (.cells (opV x (.slice A x.b.length cap)).toArray 26)).alloc (.cells (opV zeroOp (.slice none 0 0)).toArray 26))
        generalize (w.alloc (.cells (opV x (.slice A x.b.length cap)).toArray 26)).alloc (.cells (opV zeroOp (.slice none 0 0)).toArray 26) = w1 at *
        have HT := Lib.hid hT
        clear hT
        go_upto_region 18 with (first | (go_at_call 50; refine (HXX.out _).mono ?_; rintro e w2 ⟨A2, cap2, rfl, hc2, hb2, hlow⟩; have HTB := Lib.hid (HT.out.later hb2); have HC2 := Lib.hid hc2; have HLOW := Lib.hid hlow; have HSZB := Lib.hid (lt_of_block HT.out.res); have c1 : w2.cell? ⟨w.heap.size, 37, none⟩ = some (.slice A x.b.length cap) := (by rw [cell_of_row _ _ 37 _ _ _ HTB.out.row, List.getElem?_toArray]; exact opV_last x _ hx); have f1 := frozen_of_row _ _ 37 _ _ HTB.out.row; clear hb2 hc2 hlow))
        have HT2 : Hid (TwoOps w (w2.setCell ⟨w.heap.size, 37, none⟩ (.slice A2 Q.length cap2)) { x with b := Q } (.slice A2 Q.length cap2)) := HTB.out.set (opV_set_last x _ _ hx)
        have HCF : Hid (CellsIn ((w2.setCell ⟨w.heap.size, 37, none⟩ (.slice A2 Q.length cap2)).setRow (w.heap.size + 1) (opV { x with b := Q } (.slice A2 Q.length cap2)).toArray) A2 (Lib.byteCells Q)) := by
          refine HC2.out.far w.heap.size (w.heap.size + 1) (fun i h1 h2 => ?_) (fun a e => ?_)
          · rw [setRow_far _ _ _ _ h2]; exact Below.heap_setCell w2 ⟨w.heap.size, 37, none⟩ _ i h1
          · have := HLOW.out a e; have := HSZB.out; omega
        generalize w2.setCell ⟨w.heap.size, 37, none⟩ (.slice A2 Q.length cap2) = w3 at *
        clear c1 f1
        have HL := Lib.hid (opV_length { x with b := Q } (.slice A2 Q.length cap2) hx)
        go_wp2_with (first | ((with_reducible apply wpList_load_opG w.heap.size (opV { x with b := Q } (.slice A2 Q.length cap2))); rfl; exact rangeAt_of_row HT2.out.row; exact HL.out; rfl) | ((with_reducible apply wpList_store_op (w.heap.size + 1) (cs := (opV { x with b := Q } (.slice A2 Q.length cap2))) (c0 := opV zeroOp (.slice none 0 0))); (case hy => rfl); (case hx => rfl); (case hf => exact HL.out); (case hf0 => exact kindOp_len 0); (case h1 => exact opV_one _ _ rfl); (case hg => exact HT2.out.res)))
        refine bodyPost_ret_by (results_op rfl _ _ (w.heap.size + 1) (opV { x with b := Q } (.slice A2 Q.length cap2)) _ HL.out rfl (setRow_heap _ _ _ (opV { x with b := Q } (.slice A2 Q.length cap2)).toArray _ _ HT2.out.res) rfl) rfl ?_
        unfold TakePost
        rw [HT5.out.1]
        exact ⟨_, { x with b := Q }, rfl, ⟨A2, cap2, rfl, HCF.out, .inr fun a e => by have := HLOW.out a e; have := HSZB.out; omega⟩, hx, fun h => (HT5.out.2 (HT5.out.1.trans h)).symm, below_setRow HT2.out.below (Nat.le_succ _) _⟩
      · have hq : ((s[0].toNat : Int) != 120) = true := by
          rw [bne_iff_ne]; intro e; exact h61 (UInt8.toNat_inj.1 (by have : (120 : UInt8).toNat = 120 := rfl; omega))
        have HE : Hid ((takeV x 5 s.data.toList).2 = 3) := by
          show _ = _
          rw [HD5.out, if_neg (fun h => by rw [hg] at h; have := h.1; injection this with this; exact h61 this)]
        clear hg h61 hch
        go_enter Tryz.func23, Tryz.ntmps23
        go_upto_region 1 with (fail)
        change Code.wp _ _ _ _ ((w.alloc (.cells (opV x (.slice A x.b.length cap)).toArray 26)).alloc (.cells (opV zeroOp (.slice none 0 0)).toArray 26))
        generalize (w.alloc (.cells (opV x (.slice A x.b.length cap)).toArray 26)).alloc (.cells (opV zeroOp (.slice none 0 0)).toArray 26) = w1 at *
        have HT2 := Lib.hid hT
        clear hT
        have HL := Lib.hid (opV_length x (.slice A x.b.length cap) hx)
        go_wp2_with (first | ((with_reducible apply wpList_load_opG w.heap.size (opV x (.slice A x.b.length cap))); rfl; exact rangeAt_of_row HT2.out.row; exact HL.out; rfl) | ((with_reducible apply wpList_store_op (w.heap.size + 1) (cs := (opV x (.slice A x.b.length cap))) (c0 := opV zeroOp (.slice none 0 0))); (case hy => rfl); (case hx => rfl); (case hf => exact HL.out); (case hf0 => exact kindOp_len 0); (case h1 => exact opV_one _ _ rfl); (case hg => exact HT2.out.res)))
        refine bodyPost_ret_by (results_op rfl _ _ (w.heap.size + 1) (opV x (.slice A x.b.length cap)) _ HL.out rfl (setRow_heap _ _ _ (opV x (.slice A x.b.length cap)).toArray _ _ HT2.out.res) rfl) rfl ?_
        rw [TakePost, HE.out]
        exact ⟨_, x, rfl, ⟨A, cap, rfl, HA.out.below (below_setRow HT2.out.below (Nat.le_succ _) _), .inl ⟨rfl, rfl⟩⟩, hx, fun h => by simp at h, below_setRow HT2.out.below (Nat.le_succ _) _⟩
    · have HE : Hid ((takeV x 5 s.data.toList).2 = 3) := by
        show _ = _
        have hnil : s.data.toList = [] := List.eq_nil_of_length_eq_zero (by rw [HLS.out]; omega)
        rw [HD5.out, if_neg (fun h => by rw [hnil] at h; cases h.1)]
      clear hch
      go_enter Tryz.func23, Tryz.ntmps23
      go_upto_region 1 with (fail)
      change Code.wp _ _ _ _ ((w.alloc (.cells (opV x (.slice A x.b.length cap)).toArray 26)).alloc (.cells (opV zeroOp (.slice none 0 0)).toArray 26))
      generalize (w.alloc (.cells (opV x (.slice A x.b.length cap)).toArray 26)).alloc (.cells (opV zeroOp (.slice none 0 0)).toArray 26) = w1 at *
      have HT2 := Lib.hid hT
      clear hT
      have HL := Lib.hid (opV_length x (.slice A x.b.length cap) hx)
      go_wp2_with (first | ((with_reducible apply wpList_load_opG w.heap.size (opV x (.slice A x.b.length cap))); rfl; exact rangeAt_of_row HT2.out.row; exact HL.out; rfl) | ((with_reducible apply wpList_store_op (w.heap.size + 1) (cs := (opV x (.slice A x.b.length cap))) (c0 := opV zeroOp (.slice none 0 0))); (case hy => rfl); (case hx => rfl); (case hf => exact HL.out); (case hf0 => exact kindOp_len 0); (case h1 => exact opV_one _ _ rfl); (case hg => exact HT2.out.res)))
      refine bodyPost_ret_by (results_op rfl _ _ (w.heap.size + 1) (opV x (.slice A x.b.length cap)) _ HL.out rfl (setRow_heap _ _ _ (opV x (.slice A x.b.length cap)).toArray _ _ HT2.out.res) rfl) rfl ?_
      rw [TakePost, HE.out]
      exact ⟨_, x, rfl, ⟨A, cap, rfl, HA.out.below (below_setRow HT2.out.below (Nat.le_succ _) _), .inl ⟨rfl, rfl⟩⟩, hx, fun h => by simp at h, below_setRow HT2.out.below (Nat.le_succ _) _⟩
end Go.Proofs.YtjplfkcelkijfaaGreatDoor
