/- The reference's reading of a line that is no manifest's: for every line of at most 140737488351232 bytes. -/
import Derived.Deep.CutBlock
import Derived.Deep.CutRange
import Derived.Test.YtolaecdopfmbgaaDoorY
namespace Go.Proofs.YtolaecdopfmbgaaDoor
open Go.RowKit

set_option maxHeartbeats 2000000 in
set_option maxRecDepth 100000 in
theorem refRead_blob (s : ByteArray) (w : World) (hs : s.size ≤ 140737488351232) (hM : Lib.hasPrefix s.data.toList manP = false) :
    Calls Tryd.prog 33 #[.string s] w (RefPost s.data.toList w) := by
  have hls : s.data.toList.length = s.size := by simp
  have hs' : (s.size : Int) ≤ 140737488351232 := by omega
  have hx := man_test s
  obtain ⟨ha, hb, hc⟩ := two_new w zeroR
  have HTa := Lib.hid (show Two w _ zeroR from ⟨ha, hb, hc⟩)
  have HM := Lib.hid hM
  have HLS := Lib.hid hls
  by_cases h9 : (s.size : Int) ≥ 9
  · have hx' : ((s.extract 0 9).toList == [109, 97, 110, 105, 102, 101, 115, 116, 32]) = false := by
      rcases hx with hx | hx
      · rw [hx, hM]
      · omega
    clear hx hM hls ha hb hc
    by_cases h76 : (s.size : Int) < 76
    · have HN := Lib.hid (blob_short HM.out (by rw [HLS.out]; omega))
      clear hs
      go_enter Tryd.func33, Tryd.ntmps33
      go_wp2_with (first | (with_reducible refine wpList_alloc_ref ?_) | ((with_reducible apply wpList_load_ref (w.heap.size + 1) 0 zeroR); rfl; exact rangeAt_ref HTa.out.2.1; exact zeroR_fits) | ((with_reducible apply wpList_store_refat w.heap.size zeroR zeroR zeroR_fits zeroR_fits); rfl; rfl; exact HTa.out.1))
      refine bodyPost_ret_by (results_ref rfl _ _ w.heap.size zeroR _ zeroR_fits rfl (HTa.out.row _) rfl) rfl ?_
      exact RefPost.is zeroR_fits (by rw [HN.out]; rfl) (fun x hx => by rw [HN.out] at hx; cases hx) (below_setRow HTa.out.2.2 (Nat.le_refl _) _)
    · have hT : (s.extract 5 76).data.toList = (s.data.toList.drop 5).take 71 := by
        rw [Lib.extract_data]
      have h58 := fun x => refDigRead_calls (s.extract 5 76) x (by simp; omega)
      rw [hT] at h58
      have hno := blob_no (l := s.data.toList) HM.out
      have his := blob_is (l := s.data.toList) HM.out
      have hDL := digD_length ((s.data.toList.drop 5).take 71)
      unfold DigPost at h58
      generalize digD ((s.data.toList.drop 5).take 71) = D at *
      generalize digOk ((s.data.toList.drop 5).take 71) = O at *
      have H58 := Lib.hid h58
      have HNO := Lib.hid hno
      have HIS := Lib.hid his
      have HDL := Lib.hid hDL
      clear h58 hno his hDL hT hs
      go_enter Tryd.func33, Tryd.ntmps33
      go_upto_region 8 with (first | (with_reducible refine wpList_alloc_ref ?_))
      generalize (w.alloc (.cells (refV zeroR).toArray 41)).alloc (.cells (refV zeroR).toArray 41) = w1 at *
      cases O with
      | false =>
        go_upto_region 9 with (first | (go_at_call 58; refine (H58.out _).mono ?_; rintro e w2 ⟨rfl, hb2⟩) | (with_reducible refine wpList_alloc_dig ?_) | ((with_reducible apply wpList_store_dignew w2 D zeroD HDL.out zeroD_length); rfl; rfl))
        have HT2 := Lib.hid (HTa.out.below (hb2.alloc hb2.size (.cells (digV D).toArray 39)))
        generalize w2.alloc (.cells (digV D).toArray 39) = w3 at *
        go_wp2_with (first | ((with_reducible apply wpList_load_ref (w.heap.size + 1) 0 zeroR); rfl; exact rangeAt_ref HT2.out.2.1; exact zeroR_fits) | ((with_reducible apply wpList_store_refat w.heap.size zeroR zeroR zeroR_fits zeroR_fits); rfl; rfl; exact HT2.out.1))
        refine bodyPost_ret_by (results_ref rfl _ _ w.heap.size zeroR _ zeroR_fits rfl (HT2.out.row _) rfl) rfl ?_
        exact RefPost.is zeroR_fits (by rw [HNO.out (by trivial)]; rfl) (fun x hx => by rw [HNO.out (by trivial)] at hx; cases hx) (below_setRow HT2.out.2.2 (Nat.le_refl _) _)
      | true =>
        go_upto_region 9 with (first | (go_at_call 58; refine (H58.out _).mono ?_; rintro e w2 ⟨rfl, hb2⟩) | (with_reducible refine wpList_alloc_dig ?_) | ((with_reducible apply wpList_store_dignew w2 D zeroD HDL.out zeroD_length); rfl; rfl))
        have HT2 := Lib.hid (HTa.out.below (hb2.alloc hb2.size (.cells (digV D).toArray 39)))
        have RG := Lib.hid (rangeAt_new w2 (digV D) 39)
        generalize w2.alloc (.cells (digV D).toArray 39) = w3 at *
        generalize w2.heap.size = g6 at *
        clear hb2
        go_upto_region 12 with (first | ((with_reducible apply wpList_load_dig g6 0 D); rfl; exact RG.out; exact HDL.out) | ((with_reducible apply wpList_store_digin (w.heap.size + 1) D zeroR zeroR_fits HDL.out); rfl; rfl; exact HT2.out.2.1))
        have HF2 := Lib.hid (show ∀ n : Int, -9223372036854775808 ≤ n → n ≤ 9223372036854775807 → (⟨false, D, n⟩ : Rf).fits from fun n h1 h2 => ⟨HDL.out, h1, h2⟩)
        have HT3 := Lib.hid (show Two w (w3.setCells (w.heap.size + 1) 1 (digV D)) ⟨false, D, 0⟩ from HT2.out.dig zeroR_fits HDL.out)
        generalize w3.setCells (w.heap.size + 1) 1 (digV D) = w4 at *
        have cm : w4.cell? ⟨w.heap.size + 1, 0, none⟩ = some (.bool false) := by rw [Lib.cell_of_heap HT3.out.2.1]; rfl
        clear HTa HT2 RG H58
        go_upto_block 0 with (fail)
        clear cm
        go_cut [8] from 45 to 68 (fun i wc => Two w wc ⟨false, D, sizeF ((s.data.toList.drop 77).take 10)⟩)
        case first =>
          go_wp2_with (fail)
          go_loopw [8] (fun i wr => ∃ j : Nat, i = .int .i64 j ∧ 77 ≤ j ∧ j ≤ 87 ∧ (j = 77 ∨ j ≤ s.size) ∧ Two w wr ⟨false, D, sizeF ((s.data.toList.drop 77).take (j - 77))⟩) (fun i _ => 87 - (intOf i).toNat)
          case atStart => exact ⟨77, rfl, by omega, by omega, .inl rfl, HT3.out⟩
          case round =>
            obtain ⟨j, rfl, hj, hk, hk2, h1⟩ := hrel
            by_cases hlt : j < s.size ∧ j < 87
            · obtain ⟨hl1, hl2⟩ := hlt
              have hbd := sizeF_bound 9 ((s.data.toList.drop 77).take (j - 77)) (by rw [List.length_take]; omega)
              have hget : (s.data.toList.drop 77)[j - 77]? = some s[j] := by
                rw [List.getElem?_drop, show 77 + (j - 77) = j by omega]; exact Lib.data_getElem? s j hl1
              have hsn : sizeF ((s.data.toList.drop 77).take (j + 1 - 77)) = sizeF ((s.data.toList.drop 77).take (j - 77)) * 10 + s[j].toNat - 48 := by
                rw [show j + 1 - 77 = (j - 77) + 1 by omega, List.take_add_one, hget]; exact sizeF_snoc _ _
              have hn1 : -230000000000 ≤ sizeF ((s.data.toList.drop 77).take (j - 77)) := by have := hbd.2; omega
              have hn2 : sizeF ((s.data.toList.drop 77).take (j - 77)) ≤ 230000000000 := by have := hbd.1; omega
              have hc2 := s[j].toNat_lt
              have HSN := Lib.hid hsn
              clear hbd hget hsn
              generalize sizeF ((s.data.toList.drop 77).take (j - 77)) = n at *
              have cn : wr.cell? ⟨w.heap.size + 1, 33, none⟩ = some (.int .i64 n) := by
                rw [Lib.cell_of_heap h1.2.1]
                have := refV_n (r := ⟨false, D, n⟩) (HF2.out n (by omega) (by omega))
                simpa using this
              have fn : wr.frozen? ⟨w.heap.size + 1, 33, none⟩ = false := Lib.frozen_of_heap h1.2.1 33
              have H1 := Lib.hid (h1.num (HF2.out n (by omega) (by omega)) (n * 10 + s[j].toNat - 48))
              have hc3 : (s[j].toNat : Int) < 256 := by omega
              have hl3 : (j : Int) < s.size := by omega
              have hl4 : (j : Int) < 87 := by omega
              have HJ := Lib.hid hj
              clear h1 hc2 hk2 hk hj
              go_wp2_with (fail)
              go_region
              go_wp2_with (fail)
              go_roundw
              case rel =>
                refine ⟨j + 1, by go_num, by have := HJ.out; omega, by omega, .inr (by omega), ?_⟩
                rw [HSN.out]
                exact H1.out.below (below_drew0 _)
              case measure => simp [intOf]; omega
            · have hfin : (s.data.toList.drop 77).take (j - 77) = (s.data.toList.drop 77).take 10 := by
                by_cases h87 : j = 87
                · rw [h87]
                · have hl : (s.data.toList.drop 77).length ≤ j - 77 := by rw [List.length_drop, HLS.out]; omega
                  rw [List.take_of_length_le hl, List.take_of_length_le (by omega)]
              rw [hfin] at h1
              have H1 := Lib.hid h1
              have key : (¬ (j : Int) < s.size) ∨ ((j : Int) < s.size ∧ ¬ (j : Int) < 87) := by omega
              have hj0 : (77 : Int) ≤ j := by omega
              clear hlt hk hk2 hj h1 hfin
              rcases key with hq | ⟨hq, hq2⟩
              · go_wp2_with (fail)
                go_meet
                case rel => exact H1.out
              · go_wp2_with (fail)
                go_meet
                case rel => exact H1.out
        case rest =>
          have hbd := sizeF_bound 10 ((s.data.toList.drop 77).take 10) (by rw [List.length_take]; omega)
          have hb1 : -230000000000 * 10 ≤ sizeF ((s.data.toList.drop 77).take 10) := by have := hbd.2; omega
          have hb2 : sizeF ((s.data.toList.drop 77).take 10) ≤ 230000000000 * 10 := by have := hbd.1; omega
          have his := HIS.out
          generalize sizeF ((s.data.toList.drop 77).take 10) = n at *
          have hi := his _ rfl
          have HI := Lib.hid hi
          have H1 := Lib.hid hcut
          have hff := HF2.out n (by omega) (by omega)
          have HFF := Lib.hid hff
          clear hbd HIS his hi hcut hff HF2 HT3 HNO
          go_wp2_with (fail)
          have hS0 : (fun w' : World => w'.rangeAt (w.heap.size + 1) 0 (refV ⟨false, D, n⟩) ∧ w'.there w.heap.size 0 34) wc.drew := ⟨rangeAt_ref H1.out.2.1, there_of_heap H1.out.1 (by simp [refV_length zeroR_fits])⟩
          have HLD := fun (ops : Array Oper) (op : Oper) (a : Act) (hw : Region.wanted op (yielded ops a.tmps) = true) (x : Operand) (ho : op.op = .load 41 x) (hx : a.eval x = .pointer (some ⟨w.heap.size + 1, 0, none⟩)) =>
            yieldsIf_load_mid (P := Tryd.prog) (ops := ops) (S := fun w' : World => w'.rangeAt (w.heap.size + 1) 0 (refV ⟨false, D, n⟩) ∧ w'.there w.heap.size 0 34) (op := op) (a := a) hw 41 x ho (w.heap.size + 1) 0 hx (refV ⟨false, D, n⟩) _ (fun w' h => h.1) Tryd.underlying41 rfl (by rw [size41, refV_length HFF.out])
          by_cases hn0 : 0 ≤ n
          · by_cases hn1 : n ≤ 999999999
            · have H30 := Lib.hid (refLine_calls ⟨false, D, n⟩ · HFF.out (.inr ⟨hn0, hn1⟩))
              refine wp_region_held_drew (S := fun w' : World => w'.rangeAt (w.heap.size + 1) 0 (refV ⟨false, D, n⟩) ∧ w'.there w.heap.size 0 34) (by kernel_rfl) hS0 (fun hHeld => ?_)
              refine wpAnyH_take (i := 0) (v := .agg (refV ⟨false, D, n⟩).toArray) rfl (by kernel_rfl) (by kernel_rfl) (by kernel_rfl) (fun _ _ _ h => h) (HLD _ _ _ (by rfl) _ rfl rfl) hHeld ?_
              try simp only [List.getElem_toArray, List.getElem_cons_succ, List.getElem_cons_zero, Act.put, List.setIfInBounds_toArray, List.set_cons_zero, List.set_cons_succ]
              refine wpAnyH_take (i := 1) (v := .pointer (some ⟨w.heap.size + 1, 33, none⟩)) rfl (by kernel_rfl) (by kernel_rfl) (by kernel_rfl) (fun _ _ _ h => h) (Or.inl ⟨by rfl, fun w' h => (by go_simp)⟩) hHeld ?_
              try simp only [List.getElem_toArray, List.getElem_cons_succ, List.getElem_cons_zero, Act.put, List.setIfInBounds_toArray, List.set_cons_zero, List.set_cons_succ]
              refine wpAnyH_take (i := 2) (v := .int .i64 n) rfl (by kernel_rfl) (by kernel_rfl) (by kernel_rfl) (fun _ _ _ h => h) (Or.inl ⟨by rfl, fun w' h => (by have hc := range_n h.1 HFF.out; simp only [Nat.zero_add] at hc; clear h; go_simp)⟩) hHeld ?_
              try simp only [List.getElem_toArray, List.getElem_cons_succ, List.getElem_cons_zero, Act.put, List.setIfInBounds_toArray, List.set_cons_zero, List.set_cons_succ]
              refine wpAnyH_take (i := 3) (v := .bool true) rfl (by kernel_rfl) (by kernel_rfl) (by kernel_rfl) (fun _ _ _ h => h) (Or.inl ⟨by rfl, fun w' h => (by go_simp)⟩) hHeld ?_
              try simp only [List.getElem_toArray, List.getElem_cons_succ, List.getElem_cons_zero, Act.put, List.setIfInBounds_toArray, List.set_cons_zero, List.set_cons_succ]
              refine wpAnyH_take (i := 4) (v := .bool true) rfl (by kernel_rfl) (by kernel_rfl) (by kernel_rfl) (fun _ _ _ h => h) (Or.inl ⟨by rfl, fun w' h => (by go_simp)⟩) hHeld ?_
              try simp only [List.getElem_toArray, List.getElem_cons_succ, List.getElem_cons_zero, Act.put, List.setIfInBounds_toArray, List.set_cons_zero, List.set_cons_succ]
              refine wpAnyH_take (i := 5) (v := .pointer (some ⟨w.heap.size + 1, 33, none⟩)) rfl (by kernel_rfl) (by kernel_rfl) (by kernel_rfl) (fun _ _ _ h => h) (Or.inl ⟨by rfl, fun w' h => (by go_simp)⟩) hHeld ?_
              try simp only [List.getElem_toArray, List.getElem_cons_succ, List.getElem_cons_zero, Act.put, List.setIfInBounds_toArray, List.set_cons_zero, List.set_cons_succ]
              refine wpAnyH_take (i := 6) (v := .int .i64 n) rfl (by kernel_rfl) (by kernel_rfl) (by kernel_rfl) (fun _ _ _ h => h) (Or.inl ⟨by rfl, fun w' h => (by have hc := range_n h.1 HFF.out; simp only [Nat.zero_add] at hc; clear h; go_simp)⟩) hHeld ?_
              try simp only [List.getElem_toArray, List.getElem_cons_succ, List.getElem_cons_zero, Act.put, List.setIfInBounds_toArray, List.set_cons_zero, List.set_cons_succ]
              refine wpAnyH_take (i := 7) (v := .bool true) rfl (by kernel_rfl) (by kernel_rfl) (by kernel_rfl) (fun _ _ _ h => h) (Or.inl ⟨by rfl, fun w' h => (by go_simp)⟩) hHeld ?_
              try simp only [List.getElem_toArray, List.getElem_cons_succ, List.getElem_cons_zero, Act.put, List.setIfInBounds_toArray, List.set_cons_zero, List.set_cons_succ]
              refine wpAnyH_take (i := 8) (v := .bool true) rfl (by kernel_rfl) (by kernel_rfl) (by kernel_rfl) (fun _ _ _ h => h) (Or.inl ⟨by rfl, fun w' h => (by go_simp)⟩) hHeld ?_
              try simp only [List.getElem_toArray, List.getElem_cons_succ, List.getElem_cons_zero, Act.put, List.setIfInBounds_toArray, List.set_cons_zero, List.set_cons_succ]
              refine wpAnyH_take (i := 9) (v := .bool true) rfl (by kernel_rfl) (by kernel_rfl) (by kernel_rfl) (fun _ _ _ h => h) (Or.inl ⟨by rfl, fun w' h => (by go_simp)⟩) hHeld ?_
              try simp only [List.getElem_toArray, List.getElem_cons_succ, List.getElem_cons_zero, Act.put, List.setIfInBounds_toArray, List.set_cons_zero, List.set_cons_succ]
              refine wpAnyH_take (i := 10) (v := .agg (refV ⟨false, D, n⟩).toArray) rfl (by kernel_rfl) (by kernel_rfl) (by kernel_rfl) (fun _ _ _ h => h) (HLD _ _ _ (by rfl) _ rfl rfl) hHeld ?_
              try simp only [List.getElem_toArray, List.getElem_cons_succ, List.getElem_cons_zero, Act.put, List.setIfInBounds_toArray, List.set_cons_zero, List.set_cons_succ]
              refine wpAnyH_take (i := 12) (v := .string s) rfl (by kernel_rfl) (by kernel_rfl) (by kernel_rfl) (fun _ _ _ h => h) (Or.inl ⟨by rfl, fun w' h => (by go_simp)⟩) hHeld ?_
              try simp only [List.getElem_toArray, List.getElem_cons_succ, List.getElem_cons_zero, Act.put, List.setIfInBounds_toArray, List.set_cons_zero, List.set_cons_succ]
              refine wpAnyH_ready (rs := [11]) (by kernel_rfl) (by simp) (AllReadyH.cons rfl (fun K hK => ?_) AllReadyH.nil)
              try simp only [List.getElem_toArray, List.getElem_cons_succ, List.getElem_cons_zero, Act.put, List.setIfInBounds_toArray, List.set_cons_zero, List.set_cons_succ]
              go_simp
              go_at_call 30
              refine (H30.out _).mono ?_
              rintro e w5 ⟨rfl, hb5⟩
              have HT4 := Lib.hid (H1.out.below ((below_drew0 wc).trans hb5))
              have hS5 : w5.rangeAt (w.heap.size + 1) 0 (refV ⟨false, D, n⟩) ∧ w5.there w.heap.size 0 34 := ⟨rangeAt_ref HT4.out.2.1, there_of_heap HT4.out.1 (by simp [refV_length zeroR_fits])⟩
              go_simp
              refine hK.out _ _ hS5 (fun hHeld => ?_)
              clear hK K
              try simp only [List.getElem_toArray, List.getElem_cons_succ, List.getElem_cons_zero, Act.put, List.setIfInBounds_toArray, List.set_cons_zero, List.set_cons_succ]
              refine wpAnyH_take (i := 13) (v := .bool ((⟨(lineL ⟨false, D, n⟩).toArray⟩ : ByteArray).toList == s.toList)) rfl (by kernel_rfl) (by kernel_rfl) (by kernel_rfl) (fun _ _ _ h => h) (Or.inl ⟨by rfl, fun w' h => (by go_simp)⟩) hHeld ?_
              try simp only [List.getElem_toArray, List.getElem_cons_succ, List.getElem_cons_zero, Act.put, List.setIfInBounds_toArray, List.set_cons_zero, List.set_cons_succ]
              refine wpAnyH_take (i := 14) (v := .bool ((⟨(lineL ⟨false, D, n⟩).toArray⟩ : ByteArray).toList == s.toList)) rfl (by kernel_rfl) (by kernel_rfl) (by kernel_rfl) (fun _ _ _ h => h) (Or.inl ⟨by rfl, fun w' h => (by go_simp)⟩) hHeld ?_
              try simp only [List.getElem_toArray, List.getElem_cons_succ, List.getElem_cons_zero, Act.put, List.setIfInBounds_toArray, List.set_cons_zero, List.set_cons_succ]
              refine wpAnyH_ready (rs := [15]) (by kernel_rfl) (by simp) (AllReadyH.cons rfl (fun K hK => ?_) AllReadyH.nil)
              rw [if_pos (by rfl)]
              refine wp_store_mid 41 (.tmp 2) (.tmp 69) rfl w.heap.size 0 (refV ⟨false, D, n⟩).toArray rfl rfl (by simpa [refV_length HFF.out] using hS5.2) (by rw [size41]; simp [refV_length HFF.out]) (refV_one _) ?_
              have hS6 : (w5.setCells w.heap.size 0 (refV ⟨false, D, n⟩).toArray.toList).rangeAt (w.heap.size + 1) 0 (refV ⟨false, D, n⟩) ∧ (w5.setCells w.heap.size 0 (refV ⟨false, D, n⟩).toArray.toList).there w.heap.size 0 34 :=
                ⟨World.rangeAt_setCells_apart hS5.1 _ _ _ (.inl (by omega)), World.there_setCells hS5.2 _ _ _⟩
              refine hK.out _ _ hS6 (fun hHeld => ?_)
              clear hK K
              try simp only [List.getElem_toArray, List.getElem_cons_succ, List.getElem_cons_zero, Act.put, List.setIfInBounds_toArray, List.set_cons_zero, List.set_cons_succ]
              refine wpAnyH_ready (rs := [16]) (by kernel_rfl) (by simp) (AllReadyH.cons rfl (fun K hK => ?_) AllReadyH.nil)
              go_simp
              refine hK.out _ _ hS6 (fun hHeld => ?_)
              clear hK K
              refine wpAnyH_done (by kernel_rfl) ?_ _
              have hfin : (w5.setCells w.heap.size 0 (refV ⟨false, D, n⟩).toArray.toList).heap[w.heap.size]? = some (.cells (refV ⟨false, D, n⟩).toArray 41) := by
                have := heap_setCells (refV ⟨false, D, n⟩) [] (refV zeroR) [] w5 (by rw [refV_length HFF.out, refV_length zeroR_fits]) (by simpa using HT4.out.1)
                simpa using this
              have HFIN := Lib.hid hfin
              have HBE := Lib.hid (below_setCells' (Nat.le_refl _) (refV ⟨false, D, n⟩).toArray.toList 0 HT4.out.2.2)
              clear hfin hS6 hHeld hS5 hS0 HLD
              generalize w5.setCells w.heap.size 0 (refV ⟨false, D, n⟩).toArray.toList = w6 at *
              go_wp2
              refine bodyPost_ret_by (results_ref rfl _ _ w.heap.size ⟨false, D, n⟩ _ HFF.out rfl HFIN.out rfl) rfl ?_
              obtain ⟨i1, i2⟩ := HI.out
              refine RefPost.is HFF.out ?_ i2 HBE.out
              rw [i1, decide_eq_true hn0, decide_eq_true hn1, ByteArray.toList_eq]; rfl
            · refine wp_region_held_drew (S := fun w' : World => w'.rangeAt (w.heap.size + 1) 0 (refV ⟨false, D, n⟩) ∧ w'.there w.heap.size 0 34) (by kernel_rfl) hS0 (fun hHeld => ?_)
              refine wpAnyH_take (i := 0) (v := .agg (refV ⟨false, D, n⟩).toArray) rfl (by kernel_rfl) (by kernel_rfl) (by kernel_rfl) (fun _ _ _ h => h) (HLD _ _ _ (by rfl) _ rfl rfl) hHeld ?_
              try simp only [List.getElem_toArray, List.getElem_cons_succ, List.getElem_cons_zero, Act.put, List.setIfInBounds_toArray, List.set_cons_zero, List.set_cons_succ]
              refine wpAnyH_take (i := 1) (v := .pointer (some ⟨w.heap.size + 1, 33, none⟩)) rfl (by kernel_rfl) (by kernel_rfl) (by kernel_rfl) (fun _ _ _ h => h) (Or.inl ⟨by rfl, fun w' h => (by go_simp)⟩) hHeld ?_
              try simp only [List.getElem_toArray, List.getElem_cons_succ, List.getElem_cons_zero, Act.put, List.setIfInBounds_toArray, List.set_cons_zero, List.set_cons_succ]
              refine wpAnyH_take (i := 2) (v := .int .i64 n) rfl (by kernel_rfl) (by kernel_rfl) (by kernel_rfl) (fun _ _ _ h => h) (Or.inl ⟨by rfl, fun w' h => (by have hc := range_n h.1 HFF.out; simp only [Nat.zero_add] at hc; clear h; go_simp)⟩) hHeld ?_
              try simp only [List.getElem_toArray, List.getElem_cons_succ, List.getElem_cons_zero, Act.put, List.setIfInBounds_toArray, List.set_cons_zero, List.set_cons_succ]
              refine wpAnyH_take (i := 3) (v := .bool true) rfl (by kernel_rfl) (by kernel_rfl) (by kernel_rfl) (fun _ _ _ h => h) (Or.inl ⟨by rfl, fun w' h => (by go_simp)⟩) hHeld ?_
              try simp only [List.getElem_toArray, List.getElem_cons_succ, List.getElem_cons_zero, Act.put, List.setIfInBounds_toArray, List.set_cons_zero, List.set_cons_succ]
              refine wpAnyH_take (i := 4) (v := .bool true) rfl (by kernel_rfl) (by kernel_rfl) (by kernel_rfl) (fun _ _ _ h => h) (Or.inl ⟨by rfl, fun w' h => (by go_simp)⟩) hHeld ?_
              try simp only [List.getElem_toArray, List.getElem_cons_succ, List.getElem_cons_zero, Act.put, List.setIfInBounds_toArray, List.set_cons_zero, List.set_cons_succ]
              refine wpAnyH_take (i := 5) (v := .pointer (some ⟨w.heap.size + 1, 33, none⟩)) rfl (by kernel_rfl) (by kernel_rfl) (by kernel_rfl) (fun _ _ _ h => h) (Or.inl ⟨by rfl, fun w' h => (by go_simp)⟩) hHeld ?_
              try simp only [List.getElem_toArray, List.getElem_cons_succ, List.getElem_cons_zero, Act.put, List.setIfInBounds_toArray, List.set_cons_zero, List.set_cons_succ]
              refine wpAnyH_take (i := 6) (v := .int .i64 n) rfl (by kernel_rfl) (by kernel_rfl) (by kernel_rfl) (fun _ _ _ h => h) (Or.inl ⟨by rfl, fun w' h => (by have hc := range_n h.1 HFF.out; simp only [Nat.zero_add] at hc; clear h; go_simp)⟩) hHeld ?_
              try simp only [List.getElem_toArray, List.getElem_cons_succ, List.getElem_cons_zero, Act.put, List.setIfInBounds_toArray, List.set_cons_zero, List.set_cons_succ]
              refine wpAnyH_take (i := 7) (v := .bool false) rfl (by kernel_rfl) (by kernel_rfl) (by kernel_rfl) (fun _ _ _ h => h) (Or.inl ⟨by rfl, fun w' h => (by go_simp)⟩) hHeld ?_
              try simp only [List.getElem_toArray, List.getElem_cons_succ, List.getElem_cons_zero, Act.put, List.setIfInBounds_toArray, List.set_cons_zero, List.set_cons_succ]
              refine wpAnyH_take (i := 8) (v := .bool false) rfl (by kernel_rfl) (by kernel_rfl) (by kernel_rfl) (fun _ _ _ h => h) (Or.inl ⟨by rfl, fun w' h => (by go_simp)⟩) hHeld ?_
              try simp only [List.getElem_toArray, List.getElem_cons_succ, List.getElem_cons_zero, Act.put, List.setIfInBounds_toArray, List.set_cons_zero, List.set_cons_succ]
              refine wpAnyH_take (i := 9) (v := .bool false) rfl (by kernel_rfl) (by kernel_rfl) (by kernel_rfl) (fun _ _ _ h => h) (Or.inl ⟨by rfl, fun w' h => (by go_simp)⟩) hHeld ?_
              try simp only [List.getElem_toArray, List.getElem_cons_succ, List.getElem_cons_zero, Act.put, List.setIfInBounds_toArray, List.set_cons_zero, List.set_cons_succ]
              have HT4 := Lib.hid (H1.out.below (below_drew0 wc))
              have hS5 := hS0
              dsimp only at hS5
              refine wpAnyH_take (i := 10) (v := undef) rfl (by kernel_rfl) (by kernel_rfl) (by kernel_rfl) (fun _ _ _ h => h) (Or.inr ⟨by rfl, rfl⟩) hHeld ?_
              try simp only [List.getElem_toArray, List.getElem_cons_succ, List.getElem_cons_zero, Act.put, List.setIfInBounds_toArray, List.set_cons_zero, List.set_cons_succ]
              refine wpAnyH_take (i := 11) (v := undef) rfl (by kernel_rfl) (by kernel_rfl) (by kernel_rfl) (fun _ _ _ h => h) (Or.inr ⟨by rfl, rfl⟩) hHeld ?_
              try simp only [List.getElem_toArray, List.getElem_cons_succ, List.getElem_cons_zero, Act.put, List.setIfInBounds_toArray, List.set_cons_zero, List.set_cons_succ]
              refine wpAnyH_take (i := 12) (v := undef) rfl (by kernel_rfl) (by kernel_rfl) (by kernel_rfl) (fun _ _ _ h => h) (Or.inr ⟨by rfl, rfl⟩) hHeld ?_
              try simp only [List.getElem_toArray, List.getElem_cons_succ, List.getElem_cons_zero, Act.put, List.setIfInBounds_toArray, List.set_cons_zero, List.set_cons_succ]
              refine wpAnyH_take (i := 13) (v := undef) rfl (by kernel_rfl) (by kernel_rfl) (by kernel_rfl) (fun _ _ _ h => h) (Or.inr ⟨by rfl, rfl⟩) hHeld ?_
              try simp only [List.getElem_toArray, List.getElem_cons_succ, List.getElem_cons_zero, Act.put, List.setIfInBounds_toArray, List.set_cons_zero, List.set_cons_succ]
              refine wpAnyH_take (i := 14) (v := .bool false) rfl (by kernel_rfl) (by kernel_rfl) (by kernel_rfl) (fun _ _ _ h => h) (Or.inl ⟨by rfl, fun w' h => (by go_simp)⟩) hHeld ?_
              try simp only [List.getElem_toArray, List.getElem_cons_succ, List.getElem_cons_zero, Act.put, List.setIfInBounds_toArray, List.set_cons_zero, List.set_cons_succ]
              refine wpAnyH_ready (rs := [15]) (by kernel_rfl) (by simp) (AllReadyH.cons rfl (fun K hK => ?_) AllReadyH.nil)
              rw [if_pos (by rfl)]
              refine wp_store_mid 41 (.tmp 2) (.tmp 69) rfl w.heap.size 0 (refV ⟨false, D, n⟩).toArray rfl rfl (by simpa [refV_length HFF.out] using hS5.2) (by rw [size41]; simp [refV_length HFF.out]) (refV_one _) ?_
              have hS6 : (wc.drew.setCells w.heap.size 0 (refV ⟨false, D, n⟩).toArray.toList).rangeAt (w.heap.size + 1) 0 (refV ⟨false, D, n⟩) ∧ (wc.drew.setCells w.heap.size 0 (refV ⟨false, D, n⟩).toArray.toList).there w.heap.size 0 34 :=
                ⟨World.rangeAt_setCells_apart hS5.1 _ _ _ (.inl (by omega)), World.there_setCells hS5.2 _ _ _⟩
              refine hK.out _ _ hS6 (fun hHeld => ?_)
              clear hK K
              try simp only [List.getElem_toArray, List.getElem_cons_succ, List.getElem_cons_zero, Act.put, List.setIfInBounds_toArray, List.set_cons_zero, List.set_cons_succ]
              refine wpAnyH_ready (rs := [16]) (by kernel_rfl) (by simp) (AllReadyH.cons rfl (fun K hK => ?_) AllReadyH.nil)
              go_simp
              refine hK.out _ _ hS6 (fun hHeld => ?_)
              clear hK K
              refine wpAnyH_done (by kernel_rfl) ?_ _
              have hfin : (wc.drew.setCells w.heap.size 0 (refV ⟨false, D, n⟩).toArray.toList).heap[w.heap.size]? = some (.cells (refV ⟨false, D, n⟩).toArray 41) := by
                have := heap_setCells (refV ⟨false, D, n⟩) [] (refV zeroR) [] wc.drew (by rw [refV_length HFF.out, refV_length zeroR_fits]) (by simpa using HT4.out.1)
                simpa using this
              have HFIN := Lib.hid hfin
              have HBE := Lib.hid (below_setCells' (Nat.le_refl _) (refV ⟨false, D, n⟩).toArray.toList 0 HT4.out.2.2)
              clear hfin hS6 hHeld hS5 hS0 HLD
              generalize wc.drew.setCells w.heap.size 0 (refV ⟨false, D, n⟩).toArray.toList = w6 at *
              go_wp2
              refine bodyPost_ret_by (results_ref rfl _ _ w.heap.size ⟨false, D, n⟩ _ HFF.out rfl HFIN.out rfl) rfl ?_
              obtain ⟨i1, i2⟩ := HI.out
              refine RefPost.is HFF.out ?_ i2 HBE.out
              rw [i1, decide_eq_false (p := n ≤ 999999999) (by omega), Bool.false_and, Bool.and_false]
          · refine wp_region_held_drew (S := fun w' : World => w'.rangeAt (w.heap.size + 1) 0 (refV ⟨false, D, n⟩) ∧ w'.there w.heap.size 0 34) (by kernel_rfl) hS0 (fun hHeld => ?_)
            refine wpAnyH_take (i := 0) (v := .agg (refV ⟨false, D, n⟩).toArray) rfl (by kernel_rfl) (by kernel_rfl) (by kernel_rfl) (fun _ _ _ h => h) (HLD _ _ _ (by rfl) _ rfl rfl) hHeld ?_
            try simp only [List.getElem_toArray, List.getElem_cons_succ, List.getElem_cons_zero, Act.put, List.setIfInBounds_toArray, List.set_cons_zero, List.set_cons_succ]
            refine wpAnyH_take (i := 1) (v := .pointer (some ⟨w.heap.size + 1, 33, none⟩)) rfl (by kernel_rfl) (by kernel_rfl) (by kernel_rfl) (fun _ _ _ h => h) (Or.inl ⟨by rfl, fun w' h => (by go_simp)⟩) hHeld ?_
            try simp only [List.getElem_toArray, List.getElem_cons_succ, List.getElem_cons_zero, Act.put, List.setIfInBounds_toArray, List.set_cons_zero, List.set_cons_succ]
            refine wpAnyH_take (i := 2) (v := .int .i64 n) rfl (by kernel_rfl) (by kernel_rfl) (by kernel_rfl) (fun _ _ _ h => h) (Or.inl ⟨by rfl, fun w' h => (by have hc := range_n h.1 HFF.out; simp only [Nat.zero_add] at hc; clear h; go_simp)⟩) hHeld ?_
            try simp only [List.getElem_toArray, List.getElem_cons_succ, List.getElem_cons_zero, Act.put, List.setIfInBounds_toArray, List.set_cons_zero, List.set_cons_succ]
            refine wpAnyH_take (i := 3) (v := .bool false) rfl (by kernel_rfl) (by kernel_rfl) (by kernel_rfl) (fun _ _ _ h => h) (Or.inl ⟨by rfl, fun w' h => (by go_simp)⟩) hHeld ?_
            try simp only [List.getElem_toArray, List.getElem_cons_succ, List.getElem_cons_zero, Act.put, List.setIfInBounds_toArray, List.set_cons_zero, List.set_cons_succ]
            refine wpAnyH_take (i := 4) (v := .bool false) rfl (by kernel_rfl) (by kernel_rfl) (by kernel_rfl) (fun _ _ _ h => h) (Or.inl ⟨by rfl, fun w' h => (by go_simp)⟩) hHeld ?_
            try simp only [List.getElem_toArray, List.getElem_cons_succ, List.getElem_cons_zero, Act.put, List.setIfInBounds_toArray, List.set_cons_zero, List.set_cons_succ]
            refine wpAnyH_take (i := 5) (v := undef) rfl (by kernel_rfl) (by kernel_rfl) (by kernel_rfl) (fun _ _ _ h => h) (Or.inr ⟨by rfl, rfl⟩) hHeld ?_
            try simp only [List.getElem_toArray, List.getElem_cons_succ, List.getElem_cons_zero, Act.put, List.setIfInBounds_toArray, List.set_cons_zero, List.set_cons_succ]
            refine wpAnyH_take (i := 6) (v := undef) rfl (by kernel_rfl) (by kernel_rfl) (by kernel_rfl) (fun _ _ _ h => h) (Or.inr ⟨by rfl, rfl⟩) hHeld ?_
            try simp only [List.getElem_toArray, List.getElem_cons_succ, List.getElem_cons_zero, Act.put, List.setIfInBounds_toArray, List.set_cons_zero, List.set_cons_succ]
            refine wpAnyH_take (i := 7) (v := undef) rfl (by kernel_rfl) (by kernel_rfl) (by kernel_rfl) (fun _ _ _ h => h) (Or.inr ⟨by rfl, rfl⟩) hHeld ?_
            try simp only [List.getElem_toArray, List.getElem_cons_succ, List.getElem_cons_zero, Act.put, List.setIfInBounds_toArray, List.set_cons_zero, List.set_cons_succ]
            refine wpAnyH_take (i := 8) (v := .bool false) rfl (by kernel_rfl) (by kernel_rfl) (by kernel_rfl) (fun _ _ _ h => h) (Or.inl ⟨by rfl, fun w' h => (by go_simp)⟩) hHeld ?_
            try simp only [List.getElem_toArray, List.getElem_cons_succ, List.getElem_cons_zero, Act.put, List.setIfInBounds_toArray, List.set_cons_zero, List.set_cons_succ]
            refine wpAnyH_take (i := 9) (v := .bool false) rfl (by kernel_rfl) (by kernel_rfl) (by kernel_rfl) (fun _ _ _ h => h) (Or.inl ⟨by rfl, fun w' h => (by go_simp)⟩) hHeld ?_
            try simp only [List.getElem_toArray, List.getElem_cons_succ, List.getElem_cons_zero, Act.put, List.setIfInBounds_toArray, List.set_cons_zero, List.set_cons_succ]
            have HT4 := Lib.hid (H1.out.below (below_drew0 wc))
            have hS5 := hS0
            dsimp only at hS5
            refine wpAnyH_take (i := 10) (v := undef) rfl (by kernel_rfl) (by kernel_rfl) (by kernel_rfl) (fun _ _ _ h => h) (Or.inr ⟨by rfl, rfl⟩) hHeld ?_
            try simp only [List.getElem_toArray, List.getElem_cons_succ, List.getElem_cons_zero, Act.put, List.setIfInBounds_toArray, List.set_cons_zero, List.set_cons_succ]
            refine wpAnyH_take (i := 11) (v := undef) rfl (by kernel_rfl) (by kernel_rfl) (by kernel_rfl) (fun _ _ _ h => h) (Or.inr ⟨by rfl, rfl⟩) hHeld ?_
            try simp only [List.getElem_toArray, List.getElem_cons_succ, List.getElem_cons_zero, Act.put, List.setIfInBounds_toArray, List.set_cons_zero, List.set_cons_succ]
            refine wpAnyH_take (i := 12) (v := undef) rfl (by kernel_rfl) (by kernel_rfl) (by kernel_rfl) (fun _ _ _ h => h) (Or.inr ⟨by rfl, rfl⟩) hHeld ?_
            try simp only [List.getElem_toArray, List.getElem_cons_succ, List.getElem_cons_zero, Act.put, List.setIfInBounds_toArray, List.set_cons_zero, List.set_cons_succ]
            refine wpAnyH_take (i := 13) (v := undef) rfl (by kernel_rfl) (by kernel_rfl) (by kernel_rfl) (fun _ _ _ h => h) (Or.inr ⟨by rfl, rfl⟩) hHeld ?_
            try simp only [List.getElem_toArray, List.getElem_cons_succ, List.getElem_cons_zero, Act.put, List.setIfInBounds_toArray, List.set_cons_zero, List.set_cons_succ]
            refine wpAnyH_take (i := 14) (v := .bool false) rfl (by kernel_rfl) (by kernel_rfl) (by kernel_rfl) (fun _ _ _ h => h) (Or.inl ⟨by rfl, fun w' h => (by go_simp)⟩) hHeld ?_
            try simp only [List.getElem_toArray, List.getElem_cons_succ, List.getElem_cons_zero, Act.put, List.setIfInBounds_toArray, List.set_cons_zero, List.set_cons_succ]
            refine wpAnyH_ready (rs := [15]) (by kernel_rfl) (by simp) (AllReadyH.cons rfl (fun K hK => ?_) AllReadyH.nil)
            rw [if_pos (by rfl)]
            refine wp_store_mid 41 (.tmp 2) (.tmp 69) rfl w.heap.size 0 (refV ⟨false, D, n⟩).toArray rfl rfl (by simpa [refV_length HFF.out] using hS5.2) (by rw [size41]; simp [refV_length HFF.out]) (refV_one _) ?_
            have hS6 : (wc.drew.setCells w.heap.size 0 (refV ⟨false, D, n⟩).toArray.toList).rangeAt (w.heap.size + 1) 0 (refV ⟨false, D, n⟩) ∧ (wc.drew.setCells w.heap.size 0 (refV ⟨false, D, n⟩).toArray.toList).there w.heap.size 0 34 :=
              ⟨World.rangeAt_setCells_apart hS5.1 _ _ _ (.inl (by omega)), World.there_setCells hS5.2 _ _ _⟩
            refine hK.out _ _ hS6 (fun hHeld => ?_)
            clear hK K
            try simp only [List.getElem_toArray, List.getElem_cons_succ, List.getElem_cons_zero, Act.put, List.setIfInBounds_toArray, List.set_cons_zero, List.set_cons_succ]
            refine wpAnyH_ready (rs := [16]) (by kernel_rfl) (by simp) (AllReadyH.cons rfl (fun K hK => ?_) AllReadyH.nil)
            go_simp
            refine hK.out _ _ hS6 (fun hHeld => ?_)
            clear hK K
            refine wpAnyH_done (by kernel_rfl) ?_ _
            have hfin : (wc.drew.setCells w.heap.size 0 (refV ⟨false, D, n⟩).toArray.toList).heap[w.heap.size]? = some (.cells (refV ⟨false, D, n⟩).toArray 41) := by
              have := heap_setCells (refV ⟨false, D, n⟩) [] (refV zeroR) [] wc.drew (by rw [refV_length HFF.out, refV_length zeroR_fits]) (by simpa using HT4.out.1)
              simpa using this
            have HFIN := Lib.hid hfin
            have HBE := Lib.hid (below_setCells' (Nat.le_refl _) (refV ⟨false, D, n⟩).toArray.toList 0 HT4.out.2.2)
            clear hfin hS6 hHeld hS5 hS0 HLD
            generalize wc.drew.setCells w.heap.size 0 (refV ⟨false, D, n⟩).toArray.toList = w6 at *
            go_wp2
            refine bodyPost_ret_by (results_ref rfl _ _ w.heap.size ⟨false, D, n⟩ _ HFF.out rfl HFIN.out rfl) rfl ?_
            obtain ⟨i1, i2⟩ := HI.out
            refine RefPost.is HFF.out ?_ i2 HBE.out
            rw [i1, decide_eq_false (by omega)]; rfl
  · clear hx hM hls ha hb hc
    have HN := Lib.hid (blob_short HM.out (by rw [HLS.out]; omega))
    clear hs
    go_enter Tryd.func33, Tryd.ntmps33
    go_wp2_with (first | (with_reducible refine wpList_alloc_ref ?_) | ((with_reducible apply wpList_load_ref (w.heap.size + 1) 0 zeroR); rfl; exact rangeAt_ref HTa.out.2.1; exact zeroR_fits) | ((with_reducible apply wpList_store_refat w.heap.size zeroR zeroR zeroR_fits zeroR_fits); rfl; rfl; exact HTa.out.1))
    refine bodyPost_ret_by (results_ref rfl _ _ w.heap.size zeroR _ zeroR_fits rfl (HTa.out.row _) rfl) rfl ?_
    exact RefPost.is zeroR_fits (by rw [HN.out]; rfl) (fun x hx => by rw [HN.out] at hx; cases hx) (below_setRow HTa.out.2.2 (Nat.le_refl _) _)
theorem refRead_calls (s : ByteArray) (w : World) (hs : s.size ≤ 140737488351232) : Calls Tryd.prog 33 #[.string s] w (RefPost s.data.toList w) := by
  cases hM : Lib.hasPrefix s.data.toList manP with
  | true => exact refRead_man s w hs hM
  | false => exact refRead_blob s w hs hM
end Go.Proofs.YtolaecdopfmbgaaDoor
