/- The reference's reading of a text: for every text of at most 140737488351232 bytes. -/
import Derived.Test.YtolaecdopfmbgaaDoorAa
namespace Go.Proofs.YtolaecdopfmbgaaDoor
open Go.RowKit

theorem line_next {b : List UInt8} {fr i : Nat} {c : UInt8} (hf : fr ≤ i) (hc : b[i]? = some c) (hne : c ≠ 10) (h : ∀ x ∈ (b.drop fr).take (i - fr), x ≠ 10) : ∀ x ∈ (b.drop fr).take (i + 1 - fr), x ≠ 10 := by
  have hg : (b.drop fr)[i - fr]? = some c := by rw [List.getElem?_drop, show fr + (i - fr) = i by omega]; exact hc
  rw [show i + 1 - fr = (i - fr) + 1 by omega, List.take_add_one, hg]
  intro x hx
  rcases List.mem_append.1 hx with hx | hx
  · exact h x hx
  · obtain rfl : x = c := by simpa using hx
    exact hne
theorem line_cut {b : List UInt8} {fr i : Nat} (hf : fr ≤ i) (hc : b[i]? = some 10) : b.drop fr = (b.drop fr).take (i - fr) ++ 10 :: b.drop (i + 1) := by
  have hi := (List.getElem?_eq_some_iff.1 hc).1
  have e : (b.drop fr).drop (i - fr) = 10 :: b.drop (i + 1) := by
    rw [List.drop_drop, show fr + (i - fr) = i by omega, List.drop_eq_getElem_cons hi, (List.getElem?_eq_some_iff.1 hc).2]
  rw [← e, List.take_append_drop]
theorem line_all {b : List UInt8} {fr : Nat} (h : ∀ x ∈ (b.drop fr).take (b.length - fr), x ≠ 10) : ∀ x ∈ b.drop fr, x ≠ 10 := by
  rwa [List.take_of_length_le (by simp)] at h
theorem cellsIn_drop {w : World} {bk o : Nat} {b : List UInt8} {fr n : Nat} (h : CellsIn w (some ⟨bk, o, none⟩) (Lib.byteCells b)) : CellsIn w (some ⟨bk, o + fr, none⟩) (Lib.byteCells ((b.drop fr).take n)) := fun k v hk => by
  refine ⟨bk, o + fr, rfl, ?_⟩
  rw [Nat.add_assoc]
  refine h.at' ?_
  rw [← hk]
  simp only [Lib.byteCells, List.getElem?_map]
  have hkk := (List.getElem?_eq_some_iff.1 hk).1
  rw [Lib.byteCells_length, List.length_take] at hkk
  rw [List.getElem?_take, if_pos (by omega), List.getElem?_drop]

set_option maxHeartbeats 2000000 in
set_option maxRecDepth 100000 in
theorem refReadAll_calls (A : Option Addr) (cap : Nat) (b : List UInt8) (w : World) (hl : b.length ≤ 140737488351232) (hcap : b.length ≤ cap) (hA : CellsIn w A (Lib.byteCells b)) :
    Calls Tryd.prog 14 #[.slice A b.length cap] w (ReadPost b w) := by
  have hl' : (b.length : Int) ≤ 140737488351232 := by omega
  have hcap' : (b.length : Int) ≤ cap := by omega
  have HA := Lib.hid hA
  have HL := Lib.hid hl
  clear hA hl hcap
  go_enter Tryd.func14, Tryd.ntmps14
  go_wp2_with (fail)
  go_loopw [4, 5, 6, 7] (fun v4 v5 v6 v7 wr => ∃ (L : List Rf) (fr i n : Nat), v5 = .int .i64 fr ∧ v6 = .int .i64 n ∧ v7 = .int .i64 i ∧ (fr : Int) ≤ i ∧ (i : Int) ≤ b.length ∧ Hid (allFit L) ∧ Hid (wr.ownsRow w.heap.size 41 34 v4 L.length (refCells L)) ∧ Hid (L.length ≤ 64) ∧ Hid (Below w.heap.size w wr) ∧
    Hid (∀ x ∈ (b.drop fr).take (i - fr), x ≠ 10) ∧ Hid ((n = 0 ∧ fr = 0 ∧ L = []) ∨ (n = L.length + 1 ∧ readL b = readG L (linesR (b.drop fr))))) (fun _ _ _ i _ => b.length - (intOf i).toNat)
  case atStart => exact ⟨[], 0, 0, 0, rfl, rfl, rfl, by omega, by omega, (fun r hr => by cases hr), World.ownsRow_nil _ _ _ _, Nat.zero_le _, Below.refl _ _, (fun x hx => by simp at hx), .inl ⟨rfl, rfl, rfl⟩⟩
  case round =>
    obtain ⟨L, fr, i, n, rfl, rfl, rfl, hfi, hib, HF, HO, H64, HB, HNO, HS⟩ := hrel
    by_cases hlt : (i : Int) < b.length
    · obtain ⟨c, hc⟩ : ∃ c, b[i]? = some c := ⟨_, List.getElem?_eq_getElem (by omega)⟩
      have hbc : (Lib.byteCells b)[i]? = some (.int .u8 c.toNat) := by rw [Lib.byteCells, List.getElem?_map, hc]; rfl
      obtain ⟨bk, o, rfl, hcell⟩ := HA.out i _ hbc
      have hcell2 := (HB.out.cell (p := ⟨bk, o + i, none⟩) (World.block_lt_of_cell? _ _ hcell)).trans hcell
      have HC := Lib.hid hc
      clear hcell hbc hc
      by_cases h10 : c = 10
      · have hq : ((c.toNat : Int) == 10) = true := by rw [h10]; rfl
        have hcut := line_cut (b := b) (fr := fr) (i := i) (by omega) (by rw [HC.out, h10])
        have hcl := cellsIn_drop (fr := fr) (n := i - fr) (HA.out.below HB.out)
        have hlen : ((b.drop fr).take (i - fr)).length = i - fr := by rw [List.length_take, List.length_drop]; omega
        have hno := HNO.out
        generalize (b.drop fr).take (i - fr) = l at *
        have ht := run_text wr _ (cap - fr) l hcl
        rw [hlen] at ht
        have HT := Lib.hid ht
        have HCUT := Lib.hid hcut
        have HLEN := Lib.hid hlen
        have HNL := Lib.hid hno
        have HI := Lib.hid (show i < b.length by omega)
        clear hcut hcl hlen hno ht HNO
        rcases HS.out with ⟨hn, hf0, hL0⟩ | ⟨hn, hrd⟩
        · have hlines : readL b = if l = firstL then readG [] (linesR (b.drop (i + 1))) else ([], 3) := by
            have e : b = l ++ 10 :: b.drop (i + 1) := by have := HCUT.out; rwa [hf0, List.drop_zero] at this
            unfold readL
            rw [e, linesL_hit HNL.out, ← e]
            simp only [readS, true_and]
          have hnb : (n : Int) ≤ 100 := by omega
          have hq1 : ((n : Int) + 1 == 1) = true := by rw [beq_iff_eq]; omega
          have HLS := Lib.hid hlines
          have HN := Lib.hid hn
          have HL0 := Lib.hid hL0
          clear hlines HS hn hf0 hL0
          by_cases hfl : l = firstL
          · have hq2 : (l == [115, 116, 105, 108, 108, 97, 103, 101, 32, 49]) = true := by rw [hfl]; rfl
            have HFL := Lib.hid hfl
            clear hfl
            go_wp2_with (first | (rw [HT.out]))
            go_roundw
            case rel =>
              refine ⟨L, i + 1, i + 1, n + 1, by go_num, by go_num, by go_num, by omega, by have := HI.out; omega, HF, HO, H64, HB, ?_, .inr ⟨by rw [HN.out, HL0.out]; rfl, ?_⟩⟩
              · intro x hx; simp at hx
              · rw [HLS.out, if_pos HFL.out, HL0.out]
            case measure => have := HI.out; simp [intOf]; omega
          · have hq2 : (l == [115, 116, 105, 108, 108, 97, 103, 101, 32, 49]) = false := by rw [beq_eq_false_iff_ne]; exact hfl
            have HFL := Lib.hid (show readL b = ([], 3) by rw [HLS.out, if_neg hfl])
            clear hfl
            go_wp2_with (first | (rw [HT.out]))
            go_ret2
            exact ReadPost.bad HFL.out HB.out
        · have hlr : linesR (b.drop fr) = (l, true) :: linesR (b.drop (i + 1)) := by rw [HCUT.out, linesR_hit HNL.out]
          rw [hlr] at hrd
          have hnb : (n : Int) ≤ 100 := by have := H64.out; omega
          have hq2 : ((n : Int) + 1 == 1) = false := by rw [beq_eq_false_iff_ne]; omega
          have h33 := fun x => refRead_calls ⟨l.toArray⟩ x (by show l.toArray.size ≤ _; have := HLEN.out; have := HL.out; simp; omega)
          simp only at h33
          have HRD := Lib.hid hrd
          have HN := Lib.hid hn
          have H33 := Lib.hid h33
          clear hlr hrd hn h33 HS
          have hrd' := HRD.out
          cases hr : refS l with
          | none =>
            have HR := Lib.hid (show readL b = ([], 3) by rw [HRD.out, readG_bad (.inr hr)])
            have HRN := Lib.hid hr
            clear hr hrd'
            go_upto_region 14 with (first | (rw [HT.out]) | (go_at_call 33; refine (H33.out _).mono ?_; rintro e w2 ⟨r', hfr', he, hx', hb2⟩; simp only [HRN.out, Option.isSome_none] at he; subst he) | (with_reducible refine wpList_alloc_ref ?_) | ((with_reducible apply wpList_store_ref w2 r' zeroR hfr' zeroR_fits); rfl; rfl))
            have HB2 := Lib.hid (HB.out.trans ((hb2.alloc hb2.size (.cells (refV r').toArray 41)).mono HB.out.size))
            generalize w2.alloc (.cells (refV r').toArray 41) = w3 at *
            clear hb2 hx' hfr'
            go_wp2_with (fail)
            go_ret2
            exact ReadPost.bad HR.out HB2.out
          | some x =>
            rw [readG_some hr] at hrd'
            have HRX := Lib.hid hr
            clear hr
            go_upto_region 14 with (first | (rw [HT.out]) | (go_at_call 33; refine (H33.out _).mono ?_; rintro e w2 ⟨r', hfr', he, hx', hb2⟩; simp only [HRX.out, Option.isSome_some] at he; subst he; obtain rfl := hx' x HRX.out) | (with_reducible refine wpList_alloc_ref ?_) | ((with_reducible apply wpList_store_ref w2 r' zeroR hfr' zeroR_fits); rfl; rfl))
            have HFX := Lib.hid hfr'
            have hkeep : ∀ k, k < wr.heap.size → (w2.alloc (.cells (refV r').toArray 41)).heap[k]? = wr.heap[k]? := fun k hk => (hb2.alloc hb2.size (.cells (refV r').toArray 41)).block k hk
            have HO2 := Lib.hid (ownsRow_same HO.out (fun j hj => hkeep j (HO.out.lt j hj).2))
            have HB2 := Lib.hid (HB.out.trans ((hb2.alloc hb2.size (.cells (refV r').toArray 41)).mono HB.out.size))
            have HRG := Lib.hid (rangeAt_new w2 (refV r') 41)
            generalize w2.heap.size = g9 at *
            generalize w2.alloc (.cells (refV r').toArray 41) = w3 at *
            clear hb2 hx' hkeep hfr'
            by_cases h64 : L.length = 64
            · rw [if_pos (by omega)] at hrd'
              have HRD2 := Lib.hid hrd'
              have hq64 : ((L.length : Int) == 64) = true := by rw [beq_iff_eq]; omega
              clear h64 hrd'
              obtain ⟨a1, cap1, hv, hc1, hc2⟩ := refsIn_of_owns HF.out HO2.out
              clear hc1 hc2
              subst hv
              go_wp2_with (fail)
              go_ret2
              exact ReadPost.bad HRD2.out HB2.out
            · rw [if_neg (by have := H64.out; omega)] at hrd'
              have hq64 : ((L.length : Int) == 64) = false := by rw [beq_eq_false_iff_ne]; omega
              have HRD2 := Lib.hid hrd'
              have H63 := Lib.hid (show L.length < 64 by have := H64.out; omega)
              have hlb : (L.length : Int) ≤ 100 := by have := H64.out; omega
              clear h64 hrd'
              obtain ⟨a1, cap1, hv, hc1, hc2⟩ := refsIn_of_owns HF.out HO2.out
              clear hc1 hc2
              subst hv
              go_upto_region 19 with (first | ((with_reducible apply wpList_load_ref g9 0 r'); rfl; exact HRG.out; exact HFX.out) | ((with_reducible apply wpList_buildSlice_ref r' HFX.out); rfl) | (with_reducible refine wpList_append_ref w3 w.heap.size _ L r' HF.out HFX.out (by have := H63.out; omega) HB2.out.size HO2.out rfl rfl ?_; intro a2 cap2 w4 hc2 hri hown hgrow))
              have HO3 := Lib.hid hown
              have HB3 := Lib.hid (HB2.out.grown hgrow HB2.out.size (fun k e => (HO2.out.lt k e).1))
              have h29 := again_calls a2 cap2 (L ++ [r']) L.length r' w4 (by have := H63.out; simp; omega) hri (by simp)
              rw [List.take_left] at h29
              simp only [List.length_append, List.length_cons, List.length_nil, Nat.zero_add] at h29
              have HF2 := Lib.hid (allFit_snoc HF.out HFX.out)
              clear hown hgrow hri hc2
              cases hd : hasD L r'.d with
              | true =>
                rw [hd] at h29
                have H29 := Lib.hid h29
                have HR := Lib.hid (show readL b = ([], 7) by rw [HRD2.out, if_pos hd])
                clear h29 hd
                go_wp2_with (first | (go_at_call 29; refine H29.out.mono ?_; rintro e w5 ⟨rfl, nq, rfl⟩))
                go_ret2
                exact ReadPost.bad HR.out (below_drewN HB3.out _)
              | false =>
                rw [hd] at h29
                have H29 := Lib.hid h29
                have HR := Lib.hid (show readL b = readG (L ++ [r']) (linesR (b.drop (i + 1))) by rw [HRD2.out, if_neg (by rw [hd]; simp)])
                clear h29 hd
                go_wp2_with (first | (go_at_call 29; refine H29.out.mono ?_; rintro e w5 ⟨rfl, nq, rfl⟩))
                go_roundw
                case rel =>
                  refine ⟨L ++ [r'], i + 1, i + 1, n + 1, by go_num, by go_num, by go_num, by omega, by have := HI.out; omega, HF2.out, ownsRow_drewN HO3.out nq, by have := H63.out; unfold Hid; simp; omega, below_drewN HB3.out _, ?_, .inr ⟨by rw [HN.out]; simp, HR.out⟩⟩
                  intro x hx; simp at hx
                case measure => have := HI.out; simp [intOf]; omega
      · have hq : ((c.toNat : Int) == 10) = false := by
          rw [beq_eq_false_iff_ne]
          intro e
          exact h10 (UInt8.toNat_inj.1 (by simpa using (by omega : c.toNat = 10)))
        have HNN := Lib.hid (line_next (b := b) (fr := fr) (i := i) (by omega) HC.out h10 HNO.out)
        have HI := Lib.hid (show i < b.length by omega)
        clear h10 HNO
        go_wp2_with (fail)
        go_roundw
        case rel => exact ⟨L, fr, i + 1, n, rfl, rfl, by go_num, by omega, by have := HI.out; omega, HF, HO, H64, HB, HNN.out, HS⟩
        case measure => have := HI.out; simp [intOf]; omega
    · obtain rfl : i = b.length := by omega
      have hno := line_all HNO.out
      have HNL := Lib.hid hno
      clear HNO hno
      rcases HS.out with ⟨hn, hf0, hL0⟩ | ⟨hn, hrd⟩
      · have hq1 : ((n : Int) == 0) = true := by rw [beq_iff_eq]; omega
        have HR := Lib.hid (show readL b = ([], 3) by
          have e := HNL.out
          rw [hf0, List.drop_zero] at e
          unfold readL
          rw [linesL_miss e]; rfl)
        clear HS hn hf0 hL0
        go_wp2_with (fail)
        go_ret2
        exact ReadPost.bad HR.out HB.out
      · have hq1 : ((n : Int) == 0) = false := by rw [beq_eq_false_iff_ne]; omega
        by_cases hlt2 : (fr : Int) < b.length
        · have HR := Lib.hid (show readL b = ([], 3) by
            rw [hrd]
            unfold linesR
            rw [if_neg (by intro e; have := congrArg List.length e; simp at this; omega), linesL_miss HNL.out, readG_bad (.inl rfl)])
          clear HS hn hrd
          go_wp2_with (fail)
          go_ret2
          exact ReadPost.bad HR.out HB.out
        · have HR := Lib.hid (show readL b = (L, 0) by
            rw [hrd]
            unfold linesR
            rw [if_pos (by apply List.drop_eq_nil_of_le; omega)]; rfl)
          clear HS hn hrd
          go_wp2_with (fail)
          go_ret2
          exact ReadPost.good HR.out HF.out HO.out HB.out
end Go.Proofs.YtolaecdopfmbgaaDoor
