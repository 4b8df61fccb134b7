/- The reference's Bare: an operation with the parts alone that its kind has. No condition. -/
import Derived.Test.YtjplfkcelkijfaaDoorWs
namespace Go.Proofs.YtjplfkcelkijfaaDoor
open Go.RowKit

/-- the first parts taken over -/
def bareTo (x : OpV) (j : Nat) : OpV := ((partI x.k).take j).foldl (bareP x) (kindOp x.k)
def bareSl (S : Value) (ps : List Nat) : Value := if 5 ∈ ps then S else .slice none 0 0
theorem bareTo_succ {x : OpV} {j p : Nat} (h : (partI x.k)[j]? = some p) : bareTo x (j + 1) = bareP x (bareTo x j) p := by
  unfold bareTo
  rw [List.take_add_one, h, List.foldl_append]; rfl
theorem bareTo_all (x : OpV) : bareTo x (partI x.k).length = bareV x := by
  unfold bareTo bareV partI
  rw [List.take_length]
  split <;> rfl
theorem bareSl_succ {S : Value} {l : List Nat} {j p : Nat} (h : l[j]? = some p) : bareSl S (l.take (j + 1)) = if p = 5 then S else bareSl S (l.take j) := by
  unfold bareSl
  rw [List.take_add_one, h]
  by_cases hp : p = 5
  · subst hp; simp
  · rw [if_neg hp]
    have : (5 ∈ l.take j ++ (some p).toList) ↔ 5 ∈ l.take j := by simp; omega
    simp only [this]
theorem bareP_d (x y : OpV) (p : Nat) (hx : x.d.length = 32) (hy : y.d.length = 32) : (bareP x y p).d.length = 32 := by
  unfold bareP
  split <;> assumption
theorem bareTo_d (x : OpV) (j : Nat) (hx : x.d.length = 32) : (bareTo x j).d.length = 32 := by
  unfold bareTo
  have aux : ∀ (l : List Nat) (y : OpV), y.d.length = 32 → (l.foldl (bareP x) y).d.length = 32 := by
    intro l
    induction l with
    | nil => intro y hy; exact hy
    | cons p l ih => intro y hy; rw [List.foldl_cons]; exact ih _ (bareP_d x y p hx hy)
  exact aux _ _ zeroD_length
/-- the loop: the operation lies in its block so far -/
def BareRel (x : OpV) (S : Value) (wb wr : World) (j : Nat) : Prop :=
  wr.heap[wb.heap.size]? = some (.cells (opV (bareTo x j) (bareSl S ((partI x.k).take j))).toArray 26 (0, 0)) ∧ Below wb.heap.size wb wr
theorem opV_set_int (y : OpV) (v u : Value) (j : Nat) (hj : j < 5) : (opV y v).set j u = ((opV y v).take 5).set j u ++ (digV y.d ++ [v]) := by
  have : opV y v = [.int .i64 y.k, .int .i64 y.i, .int .i64 y.o, .int .i64 y.n, .string ⟨y.t.toArray⟩] ++ (digV y.d ++ [v]) := rfl
  rw [this, List.set_append_left _ _ (by simpa using hj)]; rfl
theorem opV_set_last (y : OpV) (v u : Value) (hd : y.d.length = 32) : (opV y v).set 37 u = opV y u := by
  show Value.int .i64 y.k :: _ :: _ :: _ :: _ :: (digV y.d ++ [v]).set 32 _ = _
  rw [List.set_append_right _ _ (by rw [digV_length, hd]; exact Nat.le_refl _), digV_length, hd]
  rfl
theorem opV_last (y : OpV) (v : Value) (hd : y.d.length = 32) : (opV y v)[37]? = some v := by
  show (digV y.d ++ [v])[32]? = some v
  rw [List.getElem?_append_right (by rw [digV_length, hd]; exact Nat.le_refl _), digV_length, hd]; rfl
theorem bareRel_set {x : OpV} {S : Value} {wb wr : World} {j p c : Nat} {u : Value} (h : BareRel x S wb wr j) (hp : (partI x.k)[j]? = some p)
    (he : (opV (bareTo x j) (bareSl S ((partI x.k).take j))).set c u = opV (bareP x (bareTo x j) p) (if p = 5 then S else bareSl S ((partI x.k).take j))) : BareRel x S wb (wr.setCell ⟨wb.heap.size, c, none⟩ u) (j + 1) := by
  refine ⟨?_, h.2.setCell (Nat.le_refl _) _⟩
  rw [heap_setCell_same wr _ c _ 26 u h.1, List.setIfInBounds_toArray, he, bareTo_succ hp, bareSl_succ hp]
theorem bareRel_dig {x : OpV} {S : Value} {wb wr : World} {j : Nat} (h : BareRel x S wb wr j) (hx : x.d.length = 32) (hp : (partI x.k)[j]? = some 4) : BareRel x S wb (wr.setCells wb.heap.size 5 (digV x.d)) (j + 1) := by
  obtain ⟨h1, h2⟩ := h
  refine ⟨?_, ?_⟩
  · rw [opV_split] at h1
    rw [heap_setCells_at wb.heap.size 26 (digV x.d) 5 wr _ (digV (bareTo x j).d) _ h1 rfl (by rw [digV_length, digV_length, hx, bareTo_d x j hx]), bareTo_succ hp, bareSl_succ hp, if_neg (by decide)]
    rfl
  · exact h2.grown (grown_setCells (g := wb.heap.size) (digV x.d) 5 wr ⟨rfl, rfl, rfl, Nat.le_refl _, fun _ _ _ => rfl⟩) h2.size (by rintro _ ⟨⟩; exact Nat.le_refl _)
set_option maxHeartbeats 4000000 in
set_option maxRecDepth 100000 in
theorem bare_calls (x : OpV) (A : Option Addr) (cap : Nat) (w : World) (hx : x.fits) :
    Calls Tryd.prog 11 #[.agg (opV x (.slice A x.b.length cap)).toArray] w fun e w' => e = .returned (.agg (opV (bareV x) (bareSl (.slice A x.b.length cap) (partI x.k))).toArray) ∧ Below w.heap.size w w' := by
  have hb1 : Below w.heap.size w (w.alloc (.cells (opV x (.slice A x.b.length cap)).toArray 26)) := (Below.refl _ _).alloc (Nat.le_refl _) _
  have hO1 := opAt_new w x (.slice A x.b.length cap) hx.2.2.2.2
  have hn1 : (w.alloc (.cells (opV x (.slice A x.b.length cap)).toArray 26)).heap.size = w.heap.size + 1 := by simp
  generalize hw1 : w.alloc (.cells (opV x (.slice A x.b.length cap)).toArray 26) = w1 at *
  have hb2 : Below w1.heap.size w1 (w1.alloc (.cells (opV zeroOp (.slice none 0 0)).toArray 26)) := (Below.refl _ _).alloc (Nat.le_refl _) _
  have hZ : (w1.alloc (.cells (opV zeroOp (.slice none 0 0)).toArray 26)).heap[w1.heap.size]? = some (.cells (opV zeroOp (.slice none 0 0)).toArray 26 (0, 0)) := World.alloc_heap_new _ _
  have hO := hO1.below hb2
  have hb := hb1.trans (hb2.mono hb1.size)
  rw [hn1] at hZ
  generalize hw2 : w1.alloc (.cells (opV zeroOp (.slice none 0 0)).toArray 26) = w2 at *
  have HS := Lib.hid (fun W => shape_calls x.k W hx.1.1 hx.1.2)
  have hk0 := hO.k
  have hpl : ((partI x.k).length : Int) ≤ 3 := by have := partI_length x.k; omega
  generalize hL : (⟨((partI x.k).map letT).toArray⟩ : ByteArray) = L at HS
  have hLs : L.size = (partI x.k).length := by rw [← hL]; show ((partI x.k).map letT).toArray.size = _; simp
  have hLi : ∀ (j p : Nat), (partI x.k)[j]? = some p → ∀ h : j < L.size, (L[j]'h).toNat = (letT p).toNat := by
    subst hL
    intro j p hp h
    have e : ((partI x.k).map letT)[j]? = some (letT p) := by rw [List.getElem?_map, hp]; rfl
    obtain ⟨h', e'⟩ := List.getElem?_eq_some_iff.1 e
    rw [← e']; rfl
  have HLI := Lib.hid hLi
  have HLS := Lib.hid hLs
  have hls3 : (L.size : Int) ≤ 3 := by omega
  have HW1 := Lib.hid hw1
  have HW2 := Lib.hid hw2
  have HZ := Lib.hid hZ
  have HB := Lib.hid hb
  have HO := Lib.hid hO
  have HD := Lib.hid hx.2.2.2.2
  clear hLi hL hLs hpl hw1 hw2 hZ hb hO hb1 hb2 hO1 hx hn1
  go_enter Tryd.func11, Tryd.ntmps11
  go_upto_region 1 with (fail)
  rw [HW1.out]
  change Code.wp _ _ _ _ (w1.alloc (.cells (opV zeroOp (.slice none 0 0)).toArray 26))
  rw [HW2.out]
  go_wp2_with fail
  refine (HS.out w2).mono ?_
  rintro e w3 ⟨rfl, b3⟩
  have hO3 := HO.out.below b3
  have hZ3 := (b3.block _ (lt_of_block HZ.out)).trans HZ.out
  have hb3 := HB.out.trans (b3.mono HB.out.size)
  have hk3 := hO3.k
  have HO3 := Lib.hid hO3
  have HZ3 := Lib.hid hZ3
  have HB3 := Lib.hid hb3
  clear hk0 b3 hO3 hZ3 hb3
  go_upto_region 3 with (first | ((with_reducible apply wpList_build_kind); rfl) | ((with_reducible apply wpList_store_op w3.heap.size (c0 := opV zeroOp (.slice none 0 0))); (case hy => rfl); (case hx => rfl); (case hf => exact kindOp_len _); (case hf0 => exact kindOp_len 0); (case h1 => simp [Value.oneCell', opV, digV]); (case hg => exact World.alloc_heap_new _ _)))
  change Code.wp _ _ _ _ ((w3.alloc (.cells (opV zeroOp (.slice none 0 0)).toArray 26)).setRow w3.heap.size (opV (kindOp x.k) (.slice none 0 0)).toArray)
  have hra : (w3.alloc (.cells (opV zeroOp (.slice none 0 0)).toArray 26)).heap[w3.heap.size]? = some (.cells (opV zeroOp (.slice none 0 0)).toArray 26 (0, 0)) := World.alloc_heap_new _ _
  have hrx := setRow_heap _ _ _ (opV (kindOp x.k) (.slice none 0 0)).toArray _ _ hra
  have hbx : Below w3.heap.size w3 ((w3.alloc (.cells (opV zeroOp (.slice none 0 0)).toArray 26)).setRow w3.heap.size (opV (kindOp x.k) (.slice none 0 0)).toArray) := below_setRow ((Below.refl _ _).alloc (Nat.le_refl _) _) (Nat.le_refl _) _
  generalize (w3.alloc (.cells (opV zeroOp (.slice none 0 0)).toArray 26)).setRow w3.heap.size (opV (kindOp x.k) (.slice none 0 0)).toArray = w4 at *
  have HREL0 : Hid (BareRel x (.slice A x.b.length cap) w3 w4 0) := ⟨hrx, hbx⟩
  have hs3 := HB3.out.size
  have hg3 : w.heap.size < w3.heap.size := HO3.out.lt
  have hg4 : w.heap.size + 1 < w3.heap.size := lt_of_block HZ3.out
  clear hra hrx hbx hk3
  go_wp2_with fail
  go_loopw [6] (fun c wr => ∃ j : Nat, c = .int .i64 j ∧ (j : Int) ≤ L.size ∧ Hid (BareRel x (.slice A x.b.length cap) w3 wr j)) (fun c _ => L.size - (intOf c).toNat)
  case atStart => exact ⟨0, rfl, by omega, HREL0⟩
  case round =>
    obtain ⟨j, rfl, hj, hrel⟩ := hrel
    have hsz := hrel.out.2.size
    have hOr := HO3.out.below hrel.out.2
    have hrow := hrel.out.1
    by_cases hlt : (j : Int) < L.size
    · have hjs : j < L.size := by omega
      have hlt' : j < (partI x.k).length := by have := HLS.out; omega
      have hp : (partI x.k)[j]? = some (partI x.k)[j] := List.getElem?_eq_getElem hlt'
      have hle := partI_le x.k _ (List.getElem_mem hlt')
      generalize (partI x.k)[j] = p at *
      have he := HLI.out j p hp hjs
      have HP := Lib.hid hp
      have hpc : p = 0 ∨ p = 1 ∨ p = 2 ∨ p = 3 ∨ p = 4 ∨ p = 5 := by omega
      clear hle hp
      rcases hpc with rfl | rfl | rfl | rfl | rfl | rfl
      · have he2 : (L[j]'hjs).toNat = 105 := he
        have hc := hOr.i
        have c1 : wr.cell? ⟨w3.heap.size, 1, none⟩ = some (.int .i64 (bareTo x j).i) := (cell_of_row _ _ 1 _ _ _ hrow).trans rfl
        have f1 := frozen_of_row _ _ 1 _ _ hrow
        clear he hOr hrow
        go_wp2_with fail
        go_roundw
        case measure => simp [intOf]; omega
        case rel => exact ⟨j + 1, by go_num, by omega, bareRel_set hrel.out HP.out rfl⟩
      · have he2 : (L[j]'hjs).toNat = 111 := he
        have hc := hOr.o
        have c1 : wr.cell? ⟨w3.heap.size, 2, none⟩ = some (.int .i64 (bareTo x j).o) := (cell_of_row _ _ 2 _ _ _ hrow).trans rfl
        have f1 := frozen_of_row _ _ 2 _ _ hrow
        clear he hOr hrow
        go_wp2_with fail
        go_roundw
        case measure => simp [intOf]; omega
        case rel => exact ⟨j + 1, by go_num, by omega, bareRel_set hrel.out HP.out rfl⟩
      · have he2 : (L[j]'hjs).toNat = 110 := he
        have hc := hOr.n
        have c1 : wr.cell? ⟨w3.heap.size, 3, none⟩ = some (.int .i64 (bareTo x j).n) := (cell_of_row _ _ 3 _ _ _ hrow).trans rfl
        have f1 := frozen_of_row _ _ 3 _ _ hrow
        clear he hOr hrow
        go_wp2_with fail
        go_roundw
        case measure => simp [intOf]; omega
        case rel => exact ⟨j + 1, by go_num, by omega, bareRel_set hrel.out HP.out rfl⟩
      · have he2 : (L[j]'hjs).toNat = 116 := he
        have hc := hOr.t
        have c1 : wr.cell? ⟨w3.heap.size, 4, none⟩ = some (.string ⟨(bareTo x j).t.toArray⟩) := (cell_of_row _ _ 4 _ _ _ hrow).trans rfl
        have f1 := frozen_of_row _ _ 4 _ _ hrow
        clear he hOr hrow
        go_wp2_with fail
        go_roundw
        case measure => simp [intOf]; omega
        case rel => exact ⟨j + 1, by go_num, by omega, bareRel_set hrel.out HP.out rfl⟩
      · have he2 : (L[j]'hjs).toNat = 100 := he
        have hc := hOr.d
        have HTH := Lib.hid (there_dig (D := x.d) hrow (bareTo_d x j HD.out) HD.out)
        have HSZ : Hid ((Tryd.prog.info? 23).map (·.size) = some (digV x.d).toArray.size) := by show _ = _; rw [size23]; simp [digV_length, HD.out]
        have H1 := Lib.hid (digV_one x.d)
        have HC := Lib.hid hc
        clear he hOr hrow hc
        go_wp2_with (first | ((with_reducible apply wpList_load_dig w.heap.size 5 x.d); rfl; exact HC.out; exact HD.out) | (refine wpList_store_mid rfl 23 _ _ rfl w3.heap.size 5 (digV x.d).toArray rfl rfl HTH.out HSZ.out H1.out ?_))
        go_roundw
        case measure => simp [intOf]; omega
        case rel => exact ⟨j + 1, by go_num, by omega, bareRel_dig hrel.out HD.out HP.out⟩
      · have he2 : (L[j]'hjs).toNat = 98 := he
        have hc := hOr.dat
        have c1 : wr.cell? ⟨w3.heap.size, 37, none⟩ = some (bareSl (.slice A x.b.length cap) ((partI x.k).take j)) := (by rw [cell_of_row _ _ 37 _ _ _ hrow, List.getElem?_toArray]; exact opV_last _ _ (bareTo_d x j HD.out))
        have f1 := frozen_of_row _ _ 37 _ _ hrow
        have HBS : Hid (bareSl (.slice A x.b.length cap) ((partI x.k).take j) = .slice A x.b.length cap ∨ bareSl (.slice A x.b.length cap) ((partI x.k).take j) = .slice none 0 0) := by
          show _ ∨ _
          unfold bareSl; split
          · exact .inl rfl
          · exact .inr rfl
        clear he hOr hrow
        go_wp2_with fail
        go_roundw
        case measure => simp [intOf]; omega
        case rel =>
          refine ⟨j + 1, by go_num, by omega, bareRel_set hrel.out HP.out ?_⟩
          rw [opV_set_last _ _ _ (bareTo_d x j HD.out), if_pos rfl]; rfl
    · have hjl : j = (partI x.k).length := by have := HLS.out; omega
      have hr5 := (hrel.out.2.block _ (lt_of_block HZ3.out)).trans HZ3.out
      rw [hjl, bareTo_all, List.take_length] at hrow
      have hd2 : (bareV x).d.length = 32 := by rw [← bareTo_all]; exact bareTo_d x _ HD.out
      have HRG := Lib.hid (rangeAt_of_row hrow)
      have C1 := Lib.hid (show (Tryd.prog.info? 26).map (·.size) = some (opV (bareV x) (bareSl (.slice A x.b.length cap) (partI x.k))).length by rw [size26, opV_length _ _ hd2])
      have hl38 := Lib.hid (opV_length (bareV x) (bareSl (.slice A x.b.length cap) (partI x.k)) hd2)
      have h1c := Lib.hid (opV_one (bareV x) (bareSl (.slice A x.b.length cap) (partI x.k)) (by unfold bareSl; split <;> rfl))
      have hz0 : (opV zeroOp (.slice none 0 0)).length = 38 := kindOp_len 0
      have HBE := Lib.hid (HB3.out.trans (hrel.out.2.mono hs3))
      have HR5 := Lib.hid hr5
      clear hrow hOr hjl hd2 hrel hr5
      generalize hcs : opV (bareV x) (bareSl (.slice A x.b.length cap) (partI x.k)) = cs at *
      have HCS := Lib.hid hcs
      clear hcs
      go_wp2_with (first | (refine wpList_load_mid rfl 26 _ rfl w3.heap.size 0 rfl cs _ HRG.out Tryd.underlying26 rfl C1.out ?_) | ((with_reducible apply wpList_store_op (w.heap.size + 1) (cs := cs) (c0 := opV zeroOp (.slice none 0 0))); (case hy => rfl); (case hx => rfl); (case hf => exact hl38.out); (case hf0 => exact hz0); (case h1 => exact h1c.out); (case hg => exact HR5.out)))
      obtain ⟨fs, hu2⟩ := Go.Proofs.YtjplfkcelkijfaaDoor.u26
      refine bodyPost_ret_by (results_cell_row rfl _ _ (w.heap.size + 1) 26 cs.toArray (0, 0) _ rfl (setRow_heap _ _ _ cs.toArray _ _ HR5.out) hu2 rfl (by rw [size26]; simp [hl38.out])) rfl ?_
      exact ⟨by rw [HCS.out], below_setRow HBE.out (Nat.le_succ _) _⟩
end Go.Proofs.YtjplfkcelkijfaaDoor
