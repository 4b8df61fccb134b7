/- The reference's reading of digests. Condition: as before. -/
import Derived.Test.YtjplfkcelkijfaaGreatDoorHxS
namespace Go.Proofs.YtjplfkcelkijfaaGreatDoor
open Go.RowKit
theorem hexP_length (l : List UInt8) : (hexP l).length = l.length / 2 := by simp [hexP]
theorem digOk_length {l : List UInt8} (h : digOk l = true) : l.length = 71 := by
  unfold digOk at h
  rw [Bool.and_eq_true, Bool.and_eq_true, decide_eq_true_eq, hexP_length] at h
  obtain ⟨h1, h2, h3⟩ := h
  have e : Lib.trimPrefix l kindL = l.drop 7 := by unfold Lib.trimPrefix; rw [if_pos h1]; rfl
  rw [e] at h2 h3
  unfold hexOk at h2
  rw [Bool.and_eq_true, decide_eq_true_eq] at h2
  rw [List.length_drop] at *
  omega
theorem digOk_no {l : List UInt8} (h : l.length ≠ 71) : digOk l = false := by
  cases hq : digOk l
  · rfl
  · exact absurd (digOk_length hq) h
theorem digOk_at {l : List UInt8} (h : l.length = 71) (hp : Lib.hasPrefix l kindL = true) : digOk l = hexOk (l.drop 7) := by
  have e : Lib.trimPrefix l kindL = l.drop 7 := by unfold Lib.trimPrefix; rw [if_pos hp]; rfl
  unfold digOk
  rw [hp, e, hexP_length, List.length_drop, h]
  simp
theorem digOk_other {l : List UInt8} (hp : Lib.hasPrefix l kindL = false) : digOk l = false := by
  unfold digOk; rw [hp]; rfl
theorem cell_heap_congr {w w' : World} {b o : Nat} (e : w'.heap[b]? = w.heap[b]?) : w'.cell? ⟨b, o, none⟩ = w.cell? ⟨b, o, none⟩ := by
  unfold World.cell?
  simp only [e]
theorem rangeAt_heap {w : World} {g : Nat} {l : List UInt8} {t : TypeId} {fr : Nat × Nat} (h : w.heap[g]? = some (.cells (digV l).toArray t fr)) : w.rangeAt g 0 (digV l) := fun j v hv => by
  rw [Nat.zero_add, Lib.cell_of_heap h]
  simpa using hv
theorem oldByte {D : List UInt8} {k : Nat} (hk : k < 32) (hD : D.length = 32) : ∃ x : UInt8, (digV (D.take k ++ zeroD.drop k))[k]? = some (.int .u8 x.toNat) := by
  have hl : k < (D.take k ++ zeroD.drop k).length := by simp [zeroD_length]; omega
  exact ⟨(D.take k ++ zeroD.drop k)[k], digV_at (List.getElem?_eq_getElem hl)⟩
theorem setRow_next {D : List UInt8} {k : Nat} {c : UInt8} (hk : k < 32) (hD : D.length = 32) (hc : D[k]? = some c) : (digV (D.take k ++ zeroD.drop k)).toArray.setIfInBounds k (.int .u8 c.toNat) = (digV (D.take (k + 1) ++ zeroD.drop (k + 1))).toArray := by
  have hl : (D.take k).length = k := by rw [List.length_take]; omega
  have e : (D.take k ++ zeroD.drop k).set k c = D.take (k + 1) ++ zeroD.drop (k + 1) := by
    have hz : k < zeroD.length := by rw [zeroD_length]; omega
    rw [List.set_append_right _ _ (by omega), hl, Nat.sub_self, List.drop_eq_getElem_cons hz, List.set_cons_zero, List.take_add_one, hc, List.append_assoc]
    rfl
  rw [← e]
  unfold digV
  rw [List.setIfInBounds_toArray, List.map_set]
theorem copyStep {w : World} {g k : Nat} {D : List UInt8} {c : UInt8} (hk : k < 32) (hD : D.length = 32) (hc : D[k]? = some c) (h : w.heap[g]? = some (.cells (digV (D.take k ++ zeroD.drop k)).toArray 23)) :
    (w.setCell ⟨g, k, none⟩ (.int .u8 c.toNat)).heap[g]? = some (.cells (digV (D.take (k + 1) ++ zeroD.drop (k + 1))).toArray 23) := by
  rw [Joins.block_setCell h, setRow_next hk hD hc]
theorem cellsIn_setCell {w : World} {g k b o : Nat} {D : List UInt8} {c : UInt8} (hk : k < 32) (hD : D.length = 32) (hc : D[k]? = some c) (h : w.heap[g]? = some (.cells (digV (D.take k ++ zeroD.drop k)).toArray 23))
    (hC : CellsIn w (some ⟨b, o, none⟩) (Lib.byteCells D)) : CellsIn (w.setCell ⟨g, k, none⟩ (.int .u8 c.toNat)) (some ⟨b, o, none⟩) (Lib.byteCells D) := fun j v hj => by
  have h0 := hC.at' hj
  refine ⟨b, o, rfl, ?_⟩
  by_cases hb : b = g
  · subst hb
    have hz : (digV (D.take k ++ zeroD.drop k)).length = 32 := by rw [digV_length]; simp [zeroD_length]; omega
    have h31 : ∃ v, (Lib.byteCells D)[31]? = some v := ⟨_, List.getElem?_eq_getElem (by rw [Lib.byteCells_length]; omega)⟩
    obtain ⟨v31, h31⟩ := h31
    have h31' := hC.at' h31
    rw [Lib.cell_of_heap h] at h31'
    have hlt : o + 31 < 32 := by
      have := (Array.getElem?_eq_some_iff.1 h31').1
      rw [List.size_toArray, hz] at this; exact this
    obtain rfl : o = 0 := by omega
    rw [Nat.zero_add] at h0 ⊢
    rw [Lib.cell_of_heap (copyStep hk hD hc h)]
    rw [Lib.cell_of_heap h] at h0
    rw [← setRow_next hk hD hc, Array.getElem?_setIfInBounds]
    split
    · rename_i e
      subst e
      rw [if_pos (by rw [List.size_toArray, hz]; exact hk)]
      rw [Lib.byteCells, List.getElem?_map, hc] at hj
      exact hj
    · exact h0
  · have e : (w.setCell ⟨g, k, none⟩ (.int .u8 c.toNat)).heap[b]? = w.heap[b]? := Below.heap_setCell _ _ _ _ hb
    exact (cell_heap_congr e).trans h0
set_option maxHeartbeats 2000000 in
set_option maxRecDepth 100000 in
theorem refDigRead_calls (s : ByteArray) (w : World) (hs : s.size ≤ 140737488351232) :
    Calls Tryz.prog 49 #[.string s] w (DigPost s.data.toList w) := by
  have hls : s.data.toList.length = s.size := by simp
  have hs' : (s.size : Int) ≤ 140737488351232 := by omega
  by_cases h71 : s.size = 71
  · have h71i : (s.size : Int) = 71 := by omega
    have hx : ((s.extract 0 7).toList == [115, 104, 97, 50, 53, 54, 58]) = Lib.hasPrefix s.data.toList kindL := by
      have := Lib.hasPrefix_raw s ⟨kindL.toArray⟩
      rw [show (decide ((⟨kindL.toArray⟩ : ByteArray).size ≤ s.size)) = true from decide_eq_true (by show 7 ≤ s.size; omega), Bool.true_and] at this
      rw [← this, ByteArray.toList_eq ⟨kindL.toArray⟩]
      rfl
    have RNG := Lib.hid (show ((w.alloc (.cells (digV zeroD).toArray 23)).alloc (.cells (digV zeroD).toArray 23)).rangeAt (w.heap.size + 1) 0 (digV zeroD) by
      have := rangeAt_new (w.alloc (.cells (digV zeroD).toArray 23)) (digV zeroD) 23
      simpa using this)
    have hr2 : ((w.alloc (.cells (digV zeroD).toArray 23)).alloc (.cells (digV zeroD).toArray 23)).heap[w.heap.size]? = some (.cells (digV zeroD).toArray 23) := (Lib.alloc_old _ _ _ (by simp)).trans (heap_alloc_new w _)
    have HR2 := Lib.hid hr2
    have HR3 := Lib.hid (setRow_heap _ w.heap.size _ (digV zeroD).toArray 23 (0, 0) hr2)
    cases hP : Lib.hasPrefix s.data.toList kindL with
    | false =>
      rw [hP] at hx
      have HOK := Lib.hid (digOk_other hP)
      clear hs hls h71 hr2 hP
      go_enter Tryz.func49, Tryz.ntmps49
      go_wp2_with (first | (with_reducible refine wpList_alloc_dig ?_) | ((with_reducible apply wpList_load_dig (w.heap.size + 1) 0 zeroD); rfl; exact RNG.out; exact zeroD_length) | ((with_reducible apply wpList_store_dig w.heap.size zeroD zeroD zeroD_length zeroD_length); rfl; rfl; exact HR2.out))
      refine bodyPost_ret_by (results_dig rfl _ _ w.heap.size zeroD _ zeroD_length rfl HR3.out rfl) rfl ?_
      refine ⟨?_, below_setRow (((Below.refl _ _).alloc (Nat.le_refl _) _).alloc (by simp) _) (Nat.le_refl _) _⟩
      unfold digD
      rw [HOK.out]; rfl
    | true =>
      rw [hP] at hx
      have he : (s.extract 7 s.size).data.toList = s.data.toList.drop 7 := by
        simp
        try rw [List.take_of_length_le (by simp)]
      have hz8 : (s.extract 7 s.size).size ≤ 140737488351232 := by
        have h8 : (s.extract 7 s.size).data.toList.length = (s.extract 7 s.size).size := by simp
        rw [he, List.length_drop] at h8
        omega
      have h84 := fun x => refHexRead_calls (s.extract 7 s.size) x hz8
      rw [he] at h84
      have hok := digOk_at (l := s.data.toList) (by rw [hls]; exact h71) hP
      have htr : Lib.trimPrefix s.data.toList kindL = s.data.toList.drop 7 := by unfold Lib.trimPrefix; rw [if_pos hP]; rfl
      have hln : (hexP (s.data.toList.drop 7)).length = 32 := by rw [hexP_length, List.length_drop, hls, h71]
      have H84 := Lib.hid h84
      have HOK := Lib.hid hok
      have HTR := Lib.hid htr
      have HLN := Lib.hid hln
      clear hs hls h71 hr2 hP he hz8 h84 hok htr hln
      go_enter Tryz.func49, Tryz.ntmps49
      go_upto_region 5 with (first | (with_reducible refine wpList_alloc_dig ?_) | (go_at_call 50; refine (H84.out _).mono ?_; rintro e w1 ⟨A, cap, rfl, hC, hb, _⟩))
      have RNG1 := Lib.hid (rangeAt_below RNG.out hb)
      have hr3 : w1.heap[w.heap.size]? = some (.cells (digV zeroD).toArray 23) := (hb.block _ (by simp; omega)).trans HR2.out
      have HR4 := Lib.hid hr3
      have HR5 := Lib.hid (setRow_heap _ w.heap.size _ (digV zeroD).toArray 23 (0, 0) hr3)
      have hbw : Below w.heap.size w w1 := (((Below.refl _ _).alloc (Nat.le_refl _) _).alloc (by simp) _).trans (hb.mono (by simp; omega))
      have HBW := Lib.hid hbw
      have HDD := Lib.hid (show digD s.data.toList = if digOk s.data.toList then hexP (s.data.toList.drop 7) else zeroD by unfold digD; rw [HTR.out])
      generalize hexP (s.data.toList.drop 7) = D at *
      generalize hexOk (s.data.toList.drop 7) = O at *
      clear hr3 H84 HR3 HTR
      cases O
      · simp only [Bool.false_eq_true, if_false] at hC ⊢
        clear hC hb hbw
        go_wp2_with (first | ((with_reducible apply wpList_load_dig (w.heap.size + 1) 0 zeroD); rfl; exact RNG1.out; exact zeroD_length) | ((with_reducible apply wpList_store_dig w.heap.size zeroD zeroD zeroD_length zeroD_length); rfl; rfl; exact HR4.out))
        refine bodyPost_ret_by (results_dig rfl _ _ w.heap.size zeroD _ zeroD_length rfl HR5.out rfl) rfl ?_
        refine ⟨?_, below_setRow HBW.out (Nat.le_refl _) _⟩
        rw [HDD.out, HOK.out]; rfl
      · simp only [if_true] at hC ⊢
        have hz4 : w1.heap[w.heap.size + 1]? = some (.cells (digV zeroD).toArray 23) := (hb.block _ (by simp)).trans (by
          have := heap_alloc_new (w.alloc (.cells (digV zeroD).toArray 23)) (.cells (digV zeroD).toArray 23)
          simpa using this)
        have hDL : (Lib.byteCells D).length = 32 := by rw [Lib.byteCells_length, HLN.out]
        obtain ⟨c0, hc0⟩ : ∃ c, (Lib.byteCells D)[0]? = some c := ⟨_, List.getElem?_eq_getElem (by omega)⟩
        obtain ⟨b, o, rfl, _⟩ := hC 0 c0 hc0
        clear hc0 RNG1 HR5
        have HZ := Lib.hid hz4
        have HDL := Lib.hid hDL
        have HC := Lib.hid hC
        rw [HLN.out]
        clear hz4 hDL hC hb hbw
        go_wp2_with (fail)
        go_loopw [7] (fun i wr => ∃ k : Nat, i = .int .i64 k ∧ k ≤ 32 ∧ wr.heap[w.heap.size + 1]? = some (.cells (digV (D.take k ++ zeroD.drop k)).toArray 23) ∧ wr.heap[w.heap.size]? = some (.cells (digV zeroD).toArray 23) ∧ CellsIn wr (some ⟨b, o, none⟩) (Lib.byteCells D) ∧ Below w.heap.size w wr) (fun i _ => 32 - (intOf i).toNat)
        case atStart => exact ⟨0, rfl, by omega, HZ.out, HR4.out, HC.out, HBW.out⟩
        case round =>
          obtain ⟨k, rfl, hk, h1, h2, h3, h4⟩ := hrel
          by_cases hlt : k < 32
          · obtain ⟨c, hc⟩ : ∃ c, D[k]? = some c := ⟨_, List.getElem?_eq_getElem (by have := HLN.out; omega)⟩
            have hbc : (Lib.byteCells D)[k]? = some (.int .u8 c.toNat) := by rw [Lib.byteCells, List.getElem?_map, hc]; rfl
            have cs := h3.at' hbc
            have fz : wr.frozen? ⟨w.heap.size + 1, k, none⟩ = false := Lib.frozen_of_heap h1 k
            obtain ⟨x, hx⟩ := oldByte (D := D) hlt HLN.out
            have ct : wr.cell? ⟨w.heap.size + 1, k, none⟩ = some (.int .u8 x.toNat) := by rw [Lib.cell_of_heap h1]; simpa using hx
            have R1 := Lib.hid (copyStep hlt HLN.out hc h1)
            have R2 := Lib.hid h2
            have R3 := Lib.hid (cellsIn_setCell hlt HLN.out hc h1 h3)
            have R4 := Lib.hid h4
            have hk' : (k : Int) < 32 := by omega
            clear h1 h2 h3 h4 hbc hx hc
            go_wp2_with (fail)
            go_roundw
            case rel =>
              refine ⟨k + 1, by go_num, by omega, R1.out, ?_, R3.out, R4.out.setCell (by show w.heap.size ≤ w.heap.size + 1; omega) _⟩
              rw [Below.heap_setCell _ _ _ _ (by show w.heap.size ≠ w.heap.size + 1; omega)]; exact R2.out
            case measure => simp [intOf]; omega
          · obtain rfl : k = 32 := by omega
            have hD : D.take 32 ++ zeroD.drop 32 = D := by
              rw [List.take_of_length_le (by have := HLN.out; omega), List.drop_of_length_le (by rw [zeroD_length]; omega), List.append_nil]
            rw [hD] at h1
            have RNG := Lib.hid (rangeAt_heap h1)
            have R2 := Lib.hid h2
            have R3 := Lib.hid (setRow_heap _ w.heap.size _ (digV D).toArray 23 (0, 0) h2)
            have R4 := Lib.hid h4
            clear hD h1 h2 h3 h4
            go_wp2_with (first | ((with_reducible apply wpList_load_dig (w.heap.size + 1) 0 D); rfl; exact RNG.out; exact HLN.out) | ((with_reducible apply wpList_store_dig w.heap.size D zeroD HLN.out zeroD_length); rfl; rfl; exact R2.out))
            refine bodyPost_ret_by (results_dig rfl _ _ w.heap.size D _ HLN.out rfl R3.out rfl) rfl ?_
            refine ⟨?_, below_setRow R4.out (Nat.le_refl _) _⟩
            rw [HDD.out, HOK.out]; rfl
  · have h71i : ¬ (s.size : Int) = 71 := by omega
    have HOK := Lib.hid (digOk_no (l := s.data.toList) (by rw [hls]; exact h71))
    have RNG := Lib.hid (show ((w.alloc (.cells (digV zeroD).toArray 23)).alloc (.cells (digV zeroD).toArray 23)).rangeAt (w.heap.size + 1) 0 (digV zeroD) by
      have := rangeAt_new (w.alloc (.cells (digV zeroD).toArray 23)) (digV zeroD) 23
      simpa using this)
    have hr2 : ((w.alloc (.cells (digV zeroD).toArray 23)).alloc (.cells (digV zeroD).toArray 23)).heap[w.heap.size]? = some (.cells (digV zeroD).toArray 23) := (Lib.alloc_old _ _ _ (by simp)).trans (heap_alloc_new w _)
    have HR2 := Lib.hid hr2
    have HR3 := Lib.hid (setRow_heap _ w.heap.size _ (digV zeroD).toArray 23 (0, 0) hr2)
    clear hs hls h71 hr2
    go_enter Tryz.func49, Tryz.ntmps49
    go_wp2_with (first | (with_reducible refine wpList_alloc_dig ?_) | ((with_reducible apply wpList_load_dig (w.heap.size + 1) 0 zeroD); rfl; exact RNG.out; exact zeroD_length) | ((with_reducible apply wpList_store_dig w.heap.size zeroD zeroD zeroD_length zeroD_length); rfl; rfl; exact HR2.out))
    refine bodyPost_ret_by (results_dig rfl _ _ w.heap.size zeroD _ zeroD_length rfl HR3.out rfl) rfl ?_
    refine ⟨?_, below_setRow (((Below.refl _ _).alloc (Nat.le_refl _) _).alloc (by simp) _) (Nat.le_refl _) _⟩
    unfold digD
    rw [HOK.out]; rfl
end Go.Proofs.YtjplfkcelkijfaaGreatDoor
