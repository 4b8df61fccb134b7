/- The reference's Answer: which reply a line is. Condition: a line of at most 8388608 bytes. -/
import Derived.Deep.CutRange
import Derived.Deep.LoopGhost
import Derived.Test.YtjplfkcelkijfaaGreatDoorYc
namespace Go.Proofs.YtjplfkcelkijfaaGreatDoor
open Go.RowKit
attribute [local irreducible] wpQuiet

theorem keys_len : ∀ k : Fin 6, (keyL k.val).length ≤ 8 := by decide +kernel
theorem cell_keys (w : World) (q : Nat) (hq : q < 6) : (w.alloc (.cells keysV 9)).cell? ⟨w.heap.size, q, none⟩ = some (.string ⟨(keyL q).toArray⟩) := by
  rw [cell_of_row _ _ q _ _ _ (World.alloc_heap_new _ _)]
  have hqc : q = 0 ∨ q = 1 ∨ q = 2 ∨ q = 3 ∨ q = 4 ∨ q = 5 := by omega
  rcases hqc with rfl | rfl | rfl | rfl | rfl | rfl <;> rfl
theorem failed_long {r : List (List UInt8)} (h : ¬ r.length = 1) : failedV r = (zeroRep, 3) := by
  rcases r with _ | ⟨y, _ | ⟨z, t⟩⟩
  · rfl
  · exact absurd rfl h
  · rfl
set_option maxHeartbeats 8000000 in
set_option maxRecDepth 100000 in
theorem refAnswer_calls (s : ByteArray) (w : World) (hs : s.size ≤ 8388608) :
    Calls Tryz.prog 14 #[.string s] w fun e w' => ∃ v, e = .returned (.tuple #[v, .int .i64 (answerV s.data.toList).2]) ∧ RepVal w' v (answerV s.data.toList).1 ∧ Below w.heap.size w w' := by
  have hb0 : Below w.heap.size w (w.alloc (.cells zeroRS.toArray 37)) := (Below.refl _ _).alloc (Nat.le_refl _) _
  have hr0 : (w.alloc (.cells zeroRS.toArray 37)).heap[w.heap.size]? = some (.cells zeroRS.toArray 37 (0, 0)) := World.alloc_heap_new _ _
  have hne := splitC_ne 32 s.data.toList
  go_enter Tryz.func14, Tryz.ntmps14
  go_upto_region 1 with (fail)
  change Code.wp _ _ _ _ (w.alloc (.cells zeroRS.toArray 37))
  generalize w.alloc (.cells zeroRS.toArray 37) = w0 at *
  have HW := Lib.hid (refWords_calls s w0 hs)
  have HB0 := Lib.hid hb0
  have HR0 := Lib.hid hr0
  clear hb0 hr0
  go_wp2_with fail
  refine HW.out.mono ?_
  rintro e w1 ⟨v, rfl, hst, b1⟩
  have HB1 := Lib.hid b1
  have HR1 := Lib.hid ((b1.block _ (lt_of_block HR0.out)).trans HR0.out)
  have hA : Hid (answerV s.data.toList = answersV (splitC 32 s.data.toList)) := rfl
  have hwl : Hid (∀ x ∈ splitC 32 s.data.toList, x.length ≤ 8388608) := words_small s hs
  have hlen : (splitC 32 s.data.toList).length ≤ 8388609 := by
    have aux : ∀ l : List UInt8, (splitC 32 l).length ≤ l.length + 1 := by
      intro l
      induction l with
      | nil => simp [splitC]
      | cons y t ih =>
        have e : splitC 32 (y :: t) = if y = 32 then [] :: splitC 32 t else (y :: (splitC 32 t).headD []) :: (splitC 32 t).tail := rfl
        rw [e]; split
        · simp; omega
        · simp; omega
    have := aux s.data.toList
    simp at this; omega
  have hlt0 := lt_of_block HR0.out
  have hs1 := b1.size
  clear b1 HW
  generalize splitC 32 s.data.toList = L at *
  cases L with
  | nil => exact absurd rfl hne
  | cons x0 r =>
    rw [answersV_cons] at hA
    simp only [List.length_cons] at hlen
    obtain ⟨a, c', rfl, hcl⟩ := hst
    obtain ⟨g1, o1, rfl, c0⟩ := hcl 0 x0 rfl
    have HCL := Lib.hid hcl
    clear hcl
    rw [Nat.add_zero] at c0
    have hpos : (0 : Int) < (r.length : Int) + 1 := by omega
    have hrl : (r.length : Int) ≤ 8388608 := by omega
    simp only [List.length_cons] at *
    by_cases he : x0 = errW ∧ r.length = 1
    · obtain ⟨rfl, hr1⟩ := he
      match r, hr1 with
      | [y], _ =>
        rw [if_pos rfl] at hA
        obtain ⟨g, o, ea, c1⟩ := HCL.out 1 y rfl
        obtain ⟨rfl, rfl⟩ : g1 = g ∧ o1 = o := by
          injection ea with ea
          injection ea with e1 e2
          exact ⟨e1, e2⟩
        have HN := Lib.hid (fun W => refNumber_calls ⟨y.toArray⟩ W (by show y.toArray.size ≤ _; have := hwl.out y (by simp); simpa using this))
        simp only [show (⟨y.toArray⟩ : ByteArray).data.toList = y by simp] at HN
        have hcv : countV y = if (numV y).2 = 0 ∧ (numV y).1 = 0 then (0, 3) else numV y := rfl
        obtain ⟨⟨n, e⟩, hnv⟩ : ∃ p, numV y = p := ⟨_, rfl⟩
        rw [hnv] at hcv
        simp only [hnv] at HN hcv
        have hfv : failedV [y] = (errRep (countV y).1, (countV y).2) := rfl
        rw [hfv] at hA
        have q1 : (errW == [101, 114, 114, 111, 114]) = true := rfl
        simp only [List.length_singleton] at *
        clear ea hfv hnv
        by_cases h0 : e = 0
        · by_cases h1 : n = 0
          · subst h0 h1
            have HV : Hid (answerV s.data.toList = (errRep 0, 3)) := by show _ = _; rw [hA.out, hcv, if_pos ⟨rfl, rfl⟩]
            clear hA hcv
            go_wp2_with (first | (go_at_call 40; refine (HN.out _).mono ?_; rintro e w2 ⟨rfl, rfl⟩) | ((with_reducible apply wpList_build_err); rfl) | ((with_reducible apply wpList_store_rep w.heap.size (c0 := zeroRS)); (case hy => rfl); (case hx => rfl); (case hf => exact errRS_length _); (case hf0 => exact zeroRS_length); (case h1 => exact repV_one _ _ _ rfl rfl); (case hg => exact HR1.out)))
            refine bodyPost_ret_by (results_rep rfl _ _ w.heap.size (repV (errRep 0) (.slice none 0 0) (.slice none 0 0)) _ (errRS_length 0) rfl (setRow_heap _ _ _ (repV (errRep 0) (.slice none 0 0) (.slice none 0 0)).toArray _ _ HR1.out) rfl) rfl ?_
            rw [HV.out]
            exact ⟨_, rfl, repVal_nil _ 0, below_setRow (HB0.out.trans (HB1.out.mono (by omega))) (Nat.le_refl _) _⟩
          · subst h0
            have q6 : ((n : Int) == 0) = false := by rw [beq_eq_false_iff_ne]; exact h1
            have HV : Hid (answerV s.data.toList = (errRep n, 0)) := by show _ = _; rw [hA.out, hcv, if_neg (fun h => h1 h.2)]
            clear hA hcv
            go_wp2_with (first | (go_at_call 40; refine (HN.out _).mono ?_; rintro e w2 ⟨rfl, rfl⟩) | ((with_reducible apply wpList_build_err); rfl) | ((with_reducible apply wpList_store_rep w.heap.size (c0 := zeroRS)); (case hy => rfl); (case hx => rfl); (case hf => exact errRS_length _); (case hf0 => exact zeroRS_length); (case h1 => exact repV_one _ _ _ rfl rfl); (case hg => exact HR1.out)))
            refine bodyPost_ret_by (results_rep rfl _ _ w.heap.size (repV (errRep n) (.slice none 0 0) (.slice none 0 0)) _ (errRS_length n) rfl (setRow_heap _ _ _ (repV (errRep n) (.slice none 0 0) (.slice none 0 0)).toArray _ _ HR1.out) rfl) rfl ?_
            rw [HV.out]
            exact ⟨_, rfl, repVal_nil _ n, below_setRow (HB0.out.trans (HB1.out.mono (by omega))) (Nat.le_refl _) _⟩
        · have q5 : ((e : Int) == 0) = false := by rw [beq_eq_false_iff_ne]; exact h0
          have HV : Hid (answerV s.data.toList = (errRep n, e)) := by show _ = _; rw [hA.out, hcv, if_neg (fun h => h0 h.1)]
          clear hA hcv
          go_wp2_with (first | (go_at_call 40; refine (HN.out _).mono ?_; rintro e w2 ⟨rfl, rfl⟩) | ((with_reducible apply wpList_build_err); rfl) | ((with_reducible apply wpList_store_rep w.heap.size (c0 := zeroRS)); (case hy => rfl); (case hx => rfl); (case hf => exact errRS_length _); (case hf0 => exact zeroRS_length); (case h1 => exact repV_one _ _ _ rfl rfl); (case hg => exact HR1.out)))
          refine bodyPost_ret_by (results_rep rfl _ _ w.heap.size (repV (errRep n) (.slice none 0 0) (.slice none 0 0)) _ (errRS_length n) rfl (setRow_heap _ _ _ (repV (errRep n) (.slice none 0 0) (.slice none 0 0)).toArray _ _ HR1.out) rfl) rfl ?_
          rw [HV.out]
          exact ⟨_, rfl, repVal_nil _ n, below_setRow (HB0.out.trans (HB1.out.mono (by omega))) (Nat.le_refl _) _⟩
    · by_cases ho : x0 = okW
      · subst ho
        have hA2 : answerV s.data.toList = saysV zeroRep 0 r := by rw [hA.out, if_neg (by decide), if_pos rfl]
        have HV := Lib.hid hA2
        have q1 : (okW == [101, 114, 114, 111, 114]) = false := by decide
        have q2 : (okW != [111, 107]) = false := rfl
        clear hA hA2 he
        go_upto_region 10 with fail
        change Code.wp _ _ _ _ (w1.alloc (.cells keysV 9))
        have hkc := fun q hq => cell_keys w1 q hq
        have hbk : Below w1.heap.size w1 (w1.alloc (.cells keysV 9)) := (Below.refl _ _).alloc (Nat.le_refl _) _
        have hnk : (w1.alloc (.cells keysV 9)).heap.size = w1.heap.size + 1 := by simp
        generalize w1.alloc (.cells keysV 9) = w2 at *
        have HKC := Lib.hid hkc
        have HBK := Lib.hid hbk
        have HB2 := Lib.hid (HB0.out.trans ((HB1.out.trans (hbk.mono hs1)).mono (by omega)))
        have HR2 := Lib.hid ((hbk.block _ (by omega)).trans HR1.out)
        have hlt2 : w.heap.size < w2.heap.size := by omega
        clear hkc hbk hnk
        go_upto_region 11 with fail
        change Code.wp _ _ _ _ (w2.alloc (.cells zeroRS.toArray 37))
        have hrep := repIn_zero w2
        have hb3 : Below w2.heap.size w2 (w2.alloc (.cells zeroRS.toArray 37)) := (Below.refl _ _).alloc (Nat.le_refl _) _
        generalize w2.alloc (.cells zeroRS.toArray 37) = w3 at *
        have HREP := Lib.hid hrep
        have HB3 := Lib.hid hb3
        clear hrep hb3
        go_wp2_with fail
        go_loopg [9, 10] r.length (fun n v9 v10 wr => ∃ (i nx : Nat) (rr : RepV), v9 = .int .i64 nx ∧ v10 = .int .i64 i ∧ 1 ≤ i ∧ (i : Int) + n = r.length + 1 ∧ nx ≤ 6 ∧ Hid (saysV zeroRep 0 r = saysV rr nx (r.drop (i - 1))) ∧ Hid (RepIn wr w2.heap.size rr) ∧ Hid (Below w2.heap.size w2 wr))
        case atStart => exact ⟨1, 0, zeroRep, rfl, rfl, by omega, by omega, by omega, rfl, HREP.out, HB3.out⟩
        case round =>
          obtain ⟨i, nx, rr, rfl, rfl, hi1, hin, hnx, hsv, HRW, HBW⟩ := hrel
          have hsz := HBW.out.size
          have hi1' : (1 : Int) ≤ i := by omega
          by_cases hlt : (i : Int) < r.length + 1
          · obtain ⟨x, hx⟩ : ∃ x, r[i - 1]? = some x := ⟨_, List.getElem?_eq_getElem (by omega)⟩
            have hx' : (okW :: r)[i]? = some x := by
              rw [show i = (i - 1) + 1 by omega]; exact hx
            obtain ⟨g, o, ea, hcx⟩ := HCL.out i x hx'
            obtain ⟨rfl, rfl⟩ : g1 = g ∧ o1 = o := by
              injection ea with ea
              injection ea with e1 e2
              exact ⟨e1, e2⟩
            have hxl : x.length ≤ 8388608 := hwl.out x (List.mem_cons_of_mem _ (List.mem_of_getElem? hx))
            have hdr : r.drop (i - 1) = x :: r.drop i := by
              have := Lib.drop_at hx
              rwa [show i - 1 + 1 = i by omega] at this
            rw [hdr] at hsv
            have HCX : Hid (∀ W, Below w2.heap.size w2 W → W.cell? ⟨g1, o1 + i, none⟩ = some (.string ⟨x.toArray⟩)) := fun W h => by
              have h1 := (HBK.out.cell (p := ⟨g1, o1 + i, none⟩) (World.block_lt_of_cell? _ _ hcx)).trans hcx
              exact (h.cell (p := ⟨g1, o1 + i, none⟩) (World.block_lt_of_cell? _ _ h1)).trans h1
            have HKW : Hid (∀ W q, Below w2.heap.size w2 W → q < 6 → W.cell? ⟨w1.heap.size, q, none⟩ = some (.string ⟨(keyL q).toArray⟩)) := fun W q h hq => by
              have h1 := HKC.out q hq
              exact (h.cell (p := ⟨w1.heap.size, q, none⟩) (World.block_lt_of_cell? _ _ h1)).trans h1
            clear ea hcx hx hx' hdr
            obtain ⟨wo, rfl⟩ : ∃ wo : World, wo = wr := ⟨_, rfl⟩
            obtain ⟨go, rfl⟩ : ∃ go : Nat, go = gk := ⟨_, rfl⟩
            go_wp2_with fail
            go_loopg [9, 11, 12] (7 - nx) (fun n v9 v11 v12 wi => (∃ q : Nat, v9 = .int .i64 nx ∧ v11 = .bool false ∧ v12 = .int .i64 q ∧ nx ≤ q ∧ q + n = 7 ∧ 1 ≤ n ∧ Hid (∀ p, cutE x = some p → ∀ i, nx ≤ i → i < q → keyL i ≠ p.1) ∧ Hid (RepIn wi w2.heap.size rr) ∧ Hid (Below w2.heap.size w2 wi)) ∨ (∃ (q : Nat) (r2 : RepV), n = 0 ∧ v9 = .int .i64 ((q : Int) + 1) ∧ v11 = .bool true ∧ v12 = .int .i64 ((q : Int) + 1) ∧ q < 6 ∧ Hid (saysV zeroRep 0 r = saysV r2 (q + 1) (r.drop i)) ∧ Hid (RepIn wi w2.heap.size r2) ∧ Hid (Below w2.heap.size w2 wi)))
            case atStart => exact .inl ⟨nx, rfl, rfl, rfl, Nat.le_refl _, by omega, by omega, fun p _ i h1 h2 => by omega, HRW, HBW⟩
            case round =>
              rcases hrel with ⟨q, rfl, rfl, rfl, hnq, hq, hn1, HNO, HRW4, HBW4⟩ | ⟨q, r2, hn0, rfl, rfl, rfl, hq6, HSV2, HRW4, HBW4⟩
              · by_cases hq6 : (q : Int) < 6
                · have hq6' : q < 6 := by omega
                  have hsz4 := HBW4.out.size
                  have hmc := mineV_cut (x := x) (key := keyL q) (fun c hc => (keys_plain _ (keyL_mem q hq6') c hc).1)
                  have hmi := fun W => mine_calls x (keyL q) W hxl (keys_len ⟨q, hq6'⟩)
                  obtain ⟨⟨mv, mf⟩, hm⟩ : ∃ p, mineV x (keyL q) = p := ⟨_, rfl⟩
                  simp only [hm] at hmi hmc
                  have HMI := Lib.hid hmi
                  have HMC := Lib.hid hmc
                  clear hm hmi hmc
                  go_upto_region 19 with fail
                  refine wp_region_below (by kernel_rfl) ?_
                  refine qv (.slice (some ⟨g1, o1, none⟩) (r.length + 1) c') (by kernel_rfl) (fun W => by go_simp) ?_
                  try simp only [Act.put, List.setIfInBounds_toArray, List.set_cons_zero, List.set_cons_succ]
                  refine qv (.int .i64 i) (by kernel_rfl) (fun W => by go_simp) ?_
                  try simp only [Act.put, List.setIfInBounds_toArray, List.set_cons_zero, List.set_cons_succ]
                  refine qv (.pointer (some ⟨g1, o1 + i, none⟩)) (by kernel_rfl) (fun W => by go_simp) ?_
                  try simp only [Act.put, List.setIfInBounds_toArray, List.set_cons_zero, List.set_cons_succ]
                  refine qr (.string ⟨x.toArray⟩) (by kernel_rfl) (fun W h => by have := HCX.out W (HBW4.out.trans (h.mono hsz4)); go_simp) ?_
                  try simp only [Act.put, List.setIfInBounds_toArray, List.set_cons_zero, List.set_cons_succ]
                  refine qv (.slice (some ⟨w1.heap.size, 0, none⟩) 6 6) (by kernel_rfl) (fun W => by go_simp) ?_
                  try simp only [Act.put, List.setIfInBounds_toArray, List.set_cons_zero, List.set_cons_succ]
                  refine qv (.int .i64 q) (by kernel_rfl) (fun W => by go_simp) ?_
                  try simp only [Act.put, List.setIfInBounds_toArray, List.set_cons_zero, List.set_cons_succ]
                  refine qv (.pointer (some ⟨w1.heap.size, q, none⟩)) (by kernel_rfl) (fun W => by go_simp) ?_
                  try simp only [Act.put, List.setIfInBounds_toArray, List.set_cons_zero, List.set_cons_succ]
                  refine qr (.string ⟨(keyL q).toArray⟩) (by kernel_rfl) (fun W h => by have := HKW.out W q (HBW4.out.trans (h.mono hsz4)) hq6'; go_simp) ?_
                  try simp only [Act.put, List.setIfInBounds_toArray, List.set_cons_zero, List.set_cons_succ]
                  refine qc (.tuple #[.string ⟨mv.toArray⟩, .bool mf]) 41 #[.string ⟨x.toArray⟩, .string ⟨(keyL q).toArray⟩] (by kernel_rfl) (fun W => by go_simp) (fun W h => grown_call h ((HMI.out W).mono fun e w' h' => ⟨h'.1, h'.2 ▸ Below.refl _ _⟩)) ?_
                  try simp only [Act.put, List.setIfInBounds_toArray, List.set_cons_zero, List.set_cons_succ]
                  refine qv (.tuple #[.string ⟨mv.toArray⟩, .bool mf]) (by kernel_rfl) (fun W => by go_simp) ?_
                  try simp only [Act.put, List.setIfInBounds_toArray, List.set_cons_zero, List.set_cons_succ]
                  refine qv (.string ⟨mv.toArray⟩) (by kernel_rfl) (fun W => by go_simp) ?_
                  try simp only [Act.put, List.setIfInBounds_toArray, List.set_cons_zero, List.set_cons_succ]
                  refine qv (.bool mf) (by kernel_rfl) (fun W => by go_simp) ?_
                  try simp only [Act.put, List.setIfInBounds_toArray, List.set_cons_zero, List.set_cons_succ]
                  refine qv (.string ⟨mv.toArray⟩) (by kernel_rfl) (fun W => by go_simp) ?_
                  try simp only [Act.put, List.setIfInBounds_toArray, List.set_cons_zero, List.set_cons_succ]
                  refine qv (.bool mf) (by kernel_rfl) (fun W => by go_simp) ?_
                  try simp only [Act.put, List.setIfInBounds_toArray, List.set_cons_zero, List.set_cons_succ]
                  refine wpQuiet_nil fun w4 hb4 => ?_
                  have HB4 := Lib.hid (HBW4.out.trans (hb4.mono hsz4))
                  have HRW5 := Lib.hid (HRW4.out.below hb4)
                  clear hb4 HMI
                  cases mf with
                  | false =>
                    have HNO2 : Hid (∀ p, cutE x = some p → ∀ i, nx ≤ i → i < q + 1 → keyL i ≠ p.1) := fun p hp i h1 h2 => by
                      by_cases e : i = q
                      · subst e
                        intro h
                        have := HMC.out
                        rw [hp] at this
                        simp only [h.symm, if_true] at this
                        injection this with _ this
                        cases this
                      · exact HNO.out p hp i h1 (by omega)
                    go_wp2_with fail
                    go_roundg (gk - 1)
                    case measure => omega
                    case rel => exact .inl ⟨q + 1, rfl, rfl, by go_num, by omega, by omega, by omega, HNO2.out, HRW5.out, HB4.out⟩
                  | true =>
                    have hcut : cutE x = some (keyL q, mv) := by
                      have h1 := HMC.out
                      cases hc : cutE x with
                      | none => rw [hc] at h1; injection h1 with _ h1; cases h1
                      | some p =>
                        obtain ⟨a, b⟩ := p
                        rw [hc] at h1
                        by_cases e : a = keyL q
                        · simp only [e, if_true] at h1
                          injection h1 with h1 _
                          rw [e, h1]
                        · simp only [e, if_false] at h1
                          injection h1 with _ h1; cases h1
                    have hvs : mv.length ≤ 8388608 := by
                      have h2 : x.length = (keyL q).length + (mv.length + 1) := by rw [cutE_join hcut]; simp
                      omega
                    obtain ⟨⟨r2, e2⟩, hsay⟩ : ∃ p, sayV rr q mv = p := ⟨_, rfl⟩
                    obtain ⟨⟨A, c1, A2, c2, hrow, hcells, hap, hstr, hcap⟩, hd⟩ := HRW5.out
                    have hpt := refPart_calls rr A c1 A2 c2 q ⟨mv.toArray⟩ w4 hd hcells hstr hcap (by show mv.toArray.size ≤ _; simpa using hvs) (by omega)
                    unfold PartPost at hpt
                    simp only [show (⟨mv.toArray⟩ : ByteArray).data.toList = mv by simp, hsay] at hpt
                    have HPT := Lib.hid hpt
                    have HROW := Lib.hid hrow
                    have HAP := Lib.hid hap
                    have hlt4 := lt_of_block hrow
                    have hRR := (HB4.out.block _ (by omega)).trans HR2.out
                    have HRR4 := Lib.hid hRR
                    clear hpt hrow hcells hap hstr hcap hvs HMC HNO hRR
                    go_upto_region 22 with (first | ((with_reducible apply wpList_load_repG w2.heap.size (repS rr A c1 A2 c2)); rfl; exact rangeAt_of_row HROW.out; exact repV_length _ _ _ hd; rfl) | (go_at_call 42; refine HPT.out.mono ?_; rintro e w5 ⟨_, y, rfl, ⟨A3, c3, A4, c4, rfl, hca, hA3, hsa, hcap4⟩, hyd, hy0, hb5⟩; have HCA := Lib.hid hca; have HA3 := Lib.hid hA3; have HSA := Lib.hid hsa; have HY0 := Lib.hid hy0; have HB5 := Lib.hid hb5; have HCAP4 := Lib.hid hcap4; clear hca hA3 hsa hy0 hb5 hcap4) | ((with_reducible apply wpList_store_rep w5.heap.size (c0 := zeroRS)); (case hy => rfl); (case hx => rfl); (case hf => exact repV_length _ _ _ hyd); (case hf0 => exact zeroRS_length); (case h1 => exact repV_one _ _ _ rfl rfl); (case hg => exact World.alloc_heap_new _ _)))
                    change Code.wp _ _ _ _ ((w5.alloc (.cells zeroRS.toArray 37)).setRow w5.heap.size (repS y A3 c3 A4 c4).toArray)
                    have hr6 : ((w5.alloc (.cells zeroRS.toArray 37)).setRow w5.heap.size (repS y A3 c3 A4 c4).toArray).heap[w5.heap.size]? = some (.cells (repS y A3 c3 A4 c4).toArray 37 (0, 0)) := setRow_heap _ _ _ _ _ _ (World.alloc_heap_new _ _)
                    have hb6 : Below w5.heap.size w5 ((w5.alloc (.cells zeroRS.toArray 37)).setRow w5.heap.size (repS y A3 c3 A4 c4).toArray) := below_setRow ((Below.refl _ _).alloc (Nat.le_refl _) _) (Nat.le_refl _) _
                    generalize (w5.alloc (.cells zeroRS.toArray 37)).setRow w5.heap.size (repS y A3 c3 A4 c4).toArray = w6 at *
                    have hs5 := HB5.out.size
                    have HR6 := Lib.hid hr6
                    have HB6 := Lib.hid (HB5.out.trans (hb6.mono hs5))
                    have HB26 := Lib.hid (HB4.out.trans (HB6.out.mono (by omega)))
                    have HROW6 := Lib.hid ((HB6.out.block _ hlt4).trans HROW.out)
                    have HRR6 := Lib.hid ((HB26.out.block _ (by omega)).trans HR2.out)
                    have HCA6 := Lib.hid (HCA.out.below hb6)
                    have HSA6 := Lib.hid (HSA.out.below hb6)
                    clear hr6 hb6 HCA HSA
                    by_cases he2 : e2 = 0
                    · subst he2
                      have HSV : Hid (saysV zeroRep 0 r = saysV r2 (q + 1) (r.drop i)) := by
                        show _ = _
                        rw [hsv.out]; exact saysV_ok hcut hq6' hnq hsay
                      obtain rfl : y = r2 := HY0.out (by first | rfl | trivial)
                      have hAP7 : ∀ a, A3 = some a → w2.heap.size < a.block := fun a e => by
                        rcases HA3.out with ⟨e1, _⟩ | h
                        · exact HAP.out a (e1 ▸ e)
                        · have := h a e; omega
                      have HAP7 := Lib.hid hAP7
                      clear hsay hsv hcut hAP7
                      go_upto_region 25 with (first | ((with_reducible apply wpList_load_repG w5.heap.size (repS y A3 c3 A4 c4)); rfl; exact rangeAt_of_row HR6.out; exact repV_length _ _ _ hyd; rfl) | ((with_reducible apply wpList_store_rep w2.heap.size (c0 := repS rr A c1 A2 c2)); (case hy => rfl); (case hx => rfl); (case hf => exact repV_length _ _ _ hyd); (case hf0 => exact repV_length _ _ _ hd); (case h1 => exact repV_one _ _ _ rfl rfl); (case hg => exact HROW6.out)))
                      have hrep7 : RepIn (w6.setRow w2.heap.size (repS y A3 c3 A4 c4).toArray) w2.heap.size y := { row := ⟨A3, c3, A4, c4, setRow_heap _ _ _ _ _ _ HROW6.out, ⟨cells_setRow HCA6.out (fun a e => by have := HAP7.out a e; omega), HAP7.out, strs_setRow HSA6.out HROW6.out (rep_no_str rr A c1 A2 c2), HCAP4.out⟩⟩, d := hyd }
                      have hb7 : Below w2.heap.size w2 (w6.setRow w2.heap.size (repS y A3 c3 A4 c4).toArray) := below_setRow HB26.out (Nat.le_refl _) _
                      generalize w6.setRow w2.heap.size (repS y A3 c3 A4 c4).toArray = w7 at *
                      have HREP7 := Lib.hid hrep7
                      have HB7 := Lib.hid hb7
                      clear hrep7 hb7
                      go_wp2_with fail
                      go_roundg 0
                      case measure => omega
                      case rel => exact .inr ⟨q, y, rfl, by go_num, rfl, by go_num, hq6', HSV.out, HREP7.out, HB7.out⟩
                    · have q7 : (e2 != 0) = true := by rw [bne_iff_ne]; exact he2
                      have HSV : Hid (saysV zeroRep 0 r = (zeroRep, e2)) := by
                        show _ = _
                        rw [hsv.out]; exact saysV_bad hcut hq6' hnq hsay he2
                      clear hsay hsv hcut
                      go_wp2_with (first | (with_reducible refine wpList_build_zrep ?_) | ((with_reducible apply wpList_store_rep w.heap.size (c0 := zeroRS)); (case hy => rfl); (case hx => rfl); (case hf => exact zeroRS_length); (case hf0 => exact zeroRS_length); (case h1 => exact repV_one _ _ _ rfl rfl); (case hg => exact HRR6.out)))
                      refine bodyPost_ret_by (results_rep rfl _ _ w.heap.size zeroRS _ zeroRS_length rfl (setRow_heap _ _ _ zeroRS.toArray _ _ HRR6.out) rfl) rfl ?_
                      rw [HV.out, HSV.out]
                      exact ⟨_, rfl, repVal_nil _ 0, below_setRow (HB2.out.trans (HB26.out.mono (by omega))) (Nat.le_refl _) _⟩
                · have HSV : Hid (saysV zeroRep 0 r = (zeroRep, 3)) := by
                    show _ = _
                    rw [hsv.out]
                    cases hcut : cutE x with
                    | none => exact saysV_none hcut
                    | some p =>
                      obtain ⟨key', v'⟩ := p
                      exact saysV_no hcut fun i h1 h2 => HNO.out _ hcut i h1 (by omega)
                  have HRR := Lib.hid ((HBW4.out.block _ (by omega)).trans HR2.out)
                  go_wp2_with (first | (with_reducible refine wpList_build_zrep ?_) | ((with_reducible apply wpList_store_rep w.heap.size (c0 := zeroRS)); (case hy => rfl); (case hx => rfl); (case hf => exact zeroRS_length); (case hf0 => exact zeroRS_length); (case h1 => exact repV_one _ _ _ rfl rfl); (case hg => exact HRR.out)))
                  refine bodyPost_ret_by (results_rep rfl _ _ w.heap.size zeroRS _ zeroRS_length rfl (setRow_heap _ _ _ zeroRS.toArray _ _ HRR.out) rfl) rfl ?_
                  rw [HV.out, HSV.out]
                  exact ⟨_, rfl, repVal_nil _ 0, below_setRow (HB2.out.trans (HBW4.out.mono (by omega))) (Nat.le_refl _) _⟩
              · by_cases hq5 : (q : Int) + 1 < 6
                · go_wp2_with fail
                  go_roundg (go - 1)
                  case measure => omega
                  case rel => exact ⟨i + 1, q + 1, r2, by go_num, by go_num, by omega, by omega, by omega, by rw [show i + 1 - 1 = i by omega]; exact HSV2.out, HRW4.out, HBW4.out⟩
                · go_wp2_with fail
                  go_roundg (go - 1)
                  case measure => omega
                  case rel => exact ⟨i + 1, q + 1, r2, by go_num, by go_num, by omega, by omega, by omega, by rw [show i + 1 - 1 = i by omega]; exact HSV2.out, HRW4.out, HBW4.out⟩
          · have HSV : Hid (saysV zeroRep 0 r = (rr, 0)) := by
              show _ = _
              rw [hsv.out, List.drop_eq_nil_of_le (by omega)]; rfl
            clear hsv
            obtain ⟨⟨A, c1, A2, c2, hrow, hcells, hap, hstr, hcap⟩, hd⟩ := HRW.out
            have hRR := (HBW.out.block _ (by omega)).trans HR2.out
            have HROW := Lib.hid (rangeAt_of_row hrow)
            have HRR := Lib.hid hRR
            have HCELLS := Lib.hid hcells
            have HAP := Lib.hid hap
            have HSTR := Lib.hid hstr
            clear hrow hcells hap hstr hRR
            go_wp2_with (first | ((with_reducible apply wpList_load_repG w2.heap.size (repS rr A c1 A2 c2)); rfl; exact HROW.out; exact repV_length _ _ _ hd; rfl) | ((with_reducible apply wpList_store_rep w.heap.size (c0 := zeroRS)); (case hy => rfl); (case hx => rfl); (case hf => exact repV_length _ _ _ hd); (case hf0 => exact zeroRS_length); (case h1 => exact repV_one _ _ _ rfl rfl); (case hg => exact HRR.out)))
            try go_big_unhide
            refine bodyPost_ret_by (results_rep rfl _ _ w.heap.size (repS rr A c1 A2 c2) _ (repV_length _ _ _ hd) rfl (setRow_heap _ _ _ (repS rr A c1 A2 c2).toArray _ _ HRR.out) rfl) rfl ?_
            rw [HV.out, HSV.out]
            exact ⟨_, rfl, repVal_set HCELLS.out (fun a e => by have := HAP.out a e; omega) HSTR.out hcap HRR.out, below_setRow (HB2.out.trans (HBW.out.mono (by omega))) (Nat.le_refl _) _⟩
      · have HV : Hid (answerV s.data.toList = (zeroRep, 3)) := by
          show _ = _
          rw [hA.out]
          by_cases h1 : x0 = errW
          · rw [if_pos h1]; exact failed_long fun e => he ⟨h1, e⟩
          · rw [if_neg h1, if_neg ho]
        have q2 : (x0 != [111, 107]) = true := bne_iff_ne.2 ho
        have q3 : (x0 == [111, 107]) = false := beq_eq_false_iff_ne.2 ho
        clear hA
        by_cases h1 : x0 = errW
        · have q1 : (x0 == [101, 114, 114, 111, 114]) = true := beq_iff_eq.2 h1
          have q4 : ((r.length : Int) + 1 == 2) = false := by rw [beq_eq_false_iff_ne]; intro h; exact he ⟨h1, by omega⟩
          go_wp2_with (first | (with_reducible refine wpList_build_zrep ?_) | ((with_reducible apply wpList_store_rep w.heap.size (c0 := zeroRS)); (case hy => rfl); (case hx => rfl); (case hf => exact zeroRS_length); (case hf0 => exact zeroRS_length); (case h1 => exact repV_one _ _ _ rfl rfl); (case hg => exact HR1.out)))
          refine bodyPost_ret_by (results_rep rfl _ _ w.heap.size zeroRS _ zeroRS_length rfl (setRow_heap _ _ _ zeroRS.toArray _ _ HR1.out) rfl) rfl ?_
          rw [HV.out]
          exact ⟨_, rfl, repVal_nil _ 0, below_setRow (HB0.out.trans (HB1.out.mono (by omega))) (Nat.le_refl _) _⟩
        · have q1 : (x0 == [101, 114, 114, 111, 114]) = false := beq_eq_false_iff_ne.2 h1
          go_wp2_with (first | (with_reducible refine wpList_build_zrep ?_) | ((with_reducible apply wpList_store_rep w.heap.size (c0 := zeroRS)); (case hy => rfl); (case hx => rfl); (case hf => exact zeroRS_length); (case hf0 => exact zeroRS_length); (case h1 => exact repV_one _ _ _ rfl rfl); (case hg => exact HR1.out)))
          refine bodyPost_ret_by (results_rep rfl _ _ w.heap.size zeroRS _ zeroRS_length rfl (setRow_heap _ _ _ zeroRS.toArray _ _ HR1.out) rfl) rfl ?_
          rw [HV.out]
          exact ⟨_, rfl, repVal_nil _ 0, below_setRow (HB0.out.trans (HB1.out.mono (by omega))) (Nat.le_refl _) _⟩
end Go.Proofs.YtjplfkcelkijfaaGreatDoor
/- The reference's SameReply, at two that are the same. Condition: data of at most 8388608 bytes, at most 8388609 names. -/
namespace Go.Proofs.YtjplfkcelkijfaaGreatDoor
open Go.RowKit
attribute [local irreducible] wpQuiet
attribute [local go_sem] equalIn_dig eqGuard39

set_option maxHeartbeats 4000000 in
set_option maxRecDepth 100000 in
theorem sameReply_calls (r : RepV) (A B A2 B2 : Option Addr) (c1 c2 d1 d2 : Nat) (w : World) (hd : r.d.length = 32) (hA : CellsIn w A (Lib.byteCells r.b)) (hB : CellsIn w B (Lib.byteCells r.b)) (hA2 : StrsIn w (.slice A2 r.l.length c2) r.l) (hB2 : StrsIn w (.slice B2 r.l.length d2) r.l) (hl : r.b.length ≤ 8388608) (hll : r.l.length ≤ 8388609) :
    Calls Tryz.prog 15 #[.agg (repS r A c1 A2 c2).toArray, .agg (repS r B d1 B2 d2).toArray] w fun e w' => e = .returned (.bool true) ∧ Below w.heap.size w w' := by
  have hb1 : Below w.heap.size w (w.alloc (.cells (repS r A c1 A2 c2).toArray 37)) := (Below.refl _ _).alloc (Nat.le_refl _) _
  have hr1 : (w.alloc (.cells (repS r A c1 A2 c2).toArray 37)).heap[w.heap.size]? = some (.cells (repS r A c1 A2 c2).toArray 37 (0, 0)) := World.alloc_heap_new _ _
  have hn1 : (w.alloc (.cells (repS r A c1 A2 c2).toArray 37)).heap.size = w.heap.size + 1 := by simp
  generalize hw1 : w.alloc (.cells (repS r A c1 A2 c2).toArray 37) = w1 at *
  have hb2 : Below w1.heap.size w1 (w1.alloc (.cells (repS r B d1 B2 d2).toArray 37)) := (Below.refl _ _).alloc (Nat.le_refl _) _
  have hr2 : (w1.alloc (.cells (repS r B d1 B2 d2).toArray 37)).heap[w1.heap.size]? = some (.cells (repS r B d1 B2 d2).toArray 37 (0, 0)) := World.alloc_heap_new _ _
  have hb := hb1.trans (hb2.mono hb1.size)
  have hr1' := (hb2.block _ (lt_of_block hr1)).trans hr1
  have hA' := hA.below hb
  have hB' := hB.below hb
  have hA2' := hA2.below hb
  have hB2' := hB2.below hb
  generalize hw2 : w1.alloc (.cells (repS r B d1 B2 d2).toArray 37) = w2 at *
  rw [hn1] at hr2
  have e1 := run_text w2 A c1 r.b hA'
  have e2 := run_text w2 B d1 r.b hB'
  have R1 := Lib.hid (repAt_of (rangeAt_of_row hr1') hd)
  have R2 := Lib.hid (repAt_of (rangeAt_of_row hr2) hd)
  have hli : (r.l.length : Int) ≤ 8388609 := by omega
  have HB := Lib.hid hb
  have HW1 := Lib.hid hw1
  have HW2 := Lib.hid hw2
  have HS1 := Lib.hid hA2'
  have HS2 := Lib.hid hB2'
  clear hb1 hb2 hA' hB' hA2' hB2' hA hB hA2 hB2 hb hl hw1 hw2 hr1 hr1' hr2 hll
  go_enter Tryz.func15, Tryz.ntmps15
  go_upto_region 1 with (fail)
  rw [HW1.out, HW2.out]
  have p1 := R1.out.e
  have p2 := R2.out.e
  have p3 := R1.out.i
  have p4 := R2.out.i
  have p5 := R1.out.k
  have p6 := R2.out.k
  have p7 := R1.out.n
  have p8 := R2.out.n
  have p9 := R1.out.dat
  have p10 := R2.out.dat
  have p11 := R1.out.nam
  have p12 := R2.out.nam
  have D1 := Lib.hid R1.out.d
  have D2 := Lib.hid R2.out.d
  go_wp2_with (first | ((with_reducible apply wpList_load_digG w.heap.size 4 r.d); rfl; exact D1.out; exact hd; rfl) | ((with_reducible apply wpList_load_digG (w.heap.size + 1) 4 r.d); rfl; exact D2.out; exact hd; rfl))
  clear p1 p2 p3 p4 p5 p6 p7 p8 p9 p10 p11 p12 e1 e2
  go_loopw [5] (fun c wr => ∃ k : Nat, c = .int .i64 k ∧ (k : Int) ≤ r.l.length ∧ Hid (Below w2.heap.size w2 wr)) (fun c _ => r.l.length - (intOf c).toNat)
  case atStart => exact ⟨0, rfl, by omega, Below.refl _ _⟩
  case round =>
    obtain ⟨k, rfl, hk, hbw⟩ := hrel
    have R1 := Lib.hid (R1.out.below hbw.out)
    have R2 := Lib.hid (R2.out.below hbw.out)
    have hs2 := HB.out.size
    have hsr := hbw.out.size
    have n1 := R1.out.nam
    by_cases hlt : (k : Int) < r.l.length
    · obtain ⟨x, hx⟩ : ∃ x, r.l[k]? = some x := ⟨_, List.getElem?_eq_getElem (by omega)⟩
      obtain ⟨a1, _, ea, hca⟩ := HS1.out.below hbw.out
      obtain ⟨ga, oa, rfl, hca2⟩ := hca k x hx
      obtain ⟨a2, _, eb, hcb⟩ := HS2.out.below hbw.out
      obtain ⟨gb, ob, rfl, hcb2⟩ := hcb k x hx
      obtain rfl : A2 = some ⟨ga, oa, none⟩ := by injection ea
      obtain rfl : B2 = some ⟨gb, ob, none⟩ := by injection eb
      have HCA := Lib.hid hca2
      have HCB := Lib.hid hcb2
      clear ea eb hca hcb hca2 hcb2 hx
      go_upto_region 6 with fail
      clear n1
      refine wp_region_below (by kernel_rfl) ?_
      refine qv (.pointer (some ⟨w.heap.size, 37, none⟩)) (by kernel_rfl) (fun W => by go_simp) ?_
      try simp only [Act.put, List.setIfInBounds_toArray, List.set_cons_zero, List.set_cons_succ]
      refine qr (.slice (some ⟨ga, oa, none⟩) r.l.length c2) (by kernel_rfl) (fun W h => by have := R1.out.nam; have hc := (h.cell (p := ⟨w.heap.size, 37, none⟩) (World.block_lt_of_cell? _ _ this)).trans this; clear this h; go_simp) ?_
      try simp only [Act.put, List.setIfInBounds_toArray, List.set_cons_zero, List.set_cons_succ]
      refine qv (.int .i64 k) (by kernel_rfl) (fun W => by go_simp) ?_
      try simp only [Act.put, List.setIfInBounds_toArray, List.set_cons_zero, List.set_cons_succ]
      refine qv (.pointer (some ⟨ga, oa + k, none⟩)) (by kernel_rfl) (fun W => by go_simp) ?_
      try simp only [Act.put, List.setIfInBounds_toArray, List.set_cons_zero, List.set_cons_succ]
      refine qr (.string ⟨x.toArray⟩) (by kernel_rfl) (fun W h => by have hc := (h.cell (p := ⟨ga, oa + k, none⟩) (World.block_lt_of_cell? _ _ HCA.out)).trans HCA.out; clear h; go_simp) ?_
      try simp only [Act.put, List.setIfInBounds_toArray, List.set_cons_zero, List.set_cons_succ]
      refine qv (.pointer (some ⟨w.heap.size + 1, 37, none⟩)) (by kernel_rfl) (fun W => by go_simp) ?_
      try simp only [Act.put, List.setIfInBounds_toArray, List.set_cons_zero, List.set_cons_succ]
      refine qr (.slice (some ⟨gb, ob, none⟩) r.l.length d2) (by kernel_rfl) (fun W h => by have := R2.out.nam; have hc := (h.cell (p := ⟨w.heap.size + 1, 37, none⟩) (World.block_lt_of_cell? _ _ this)).trans this; clear this h; go_simp) ?_
      try simp only [Act.put, List.setIfInBounds_toArray, List.set_cons_zero, List.set_cons_succ]
      refine qv (.int .i64 k) (by kernel_rfl) (fun W => by go_simp) ?_
      try simp only [Act.put, List.setIfInBounds_toArray, List.set_cons_zero, List.set_cons_succ]
      refine qv (.pointer (some ⟨gb, ob + k, none⟩)) (by kernel_rfl) (fun W => by go_simp) ?_
      try simp only [Act.put, List.setIfInBounds_toArray, List.set_cons_zero, List.set_cons_succ]
      refine qr (.string ⟨x.toArray⟩) (by kernel_rfl) (fun W h => by have hc := (h.cell (p := ⟨gb, ob + k, none⟩) (World.block_lt_of_cell? _ _ HCB.out)).trans HCB.out; clear h; go_simp) ?_
      try simp only [Act.put, List.setIfInBounds_toArray, List.set_cons_zero, List.set_cons_succ]
      refine qv (.bool false) (by kernel_rfl) (fun W => by go_simp) ?_
      try simp only [Act.put, List.setIfInBounds_toArray, List.set_cons_zero, List.set_cons_succ]
      refine wpQuiet_nil fun w4 hb4 => ?_
      have HB4 := Lib.hid (hbw.out.trans (hb4.mono hsr))
      clear hb4
      go_wp2_with fail
      go_roundw
      case rel => exact ⟨k + 1, by go_num, by omega, HB4⟩
      case measure => (simp [intOf] <;> omega)
    · go_wp2_with fail
      go_ret
      exact ⟨rfl, HB.out.trans (hbw.out.mono HB.out.size)⟩
end Go.Proofs.YtjplfkcelkijfaaGreatDoor

/- The law LineAnswers returns true. Condition: a line of at most 1048576 bytes; what lies in variables. -/
namespace Go.Proofs.YtjplfkcelkijfaaGreatDoor
open Go.RowKit

/-- a reply that can be stored, its texts no longer than n -/
def FitR (n : Nat) (r : RepV) : Prop := r.fits ∧ r.b.length ≤ n ∧ r.l.length ≤ n + 1 ∧ (joinC 44 r.l).length ≤ n
theorem split_count (c : UInt8) : ∀ l : List UInt8, (splitC c l).length ≤ l.length + 1
  | [] => by simp [splitC]
  | y :: t => by
    have ih := split_count c t
    have e : splitC c (y :: t) = if y = c then [] :: splitC c t else (y :: (splitC c t).headD []) :: (splitC c t).tail := rfl
    rw [e]; split
    · simp; omega
    · simp; omega
theorem in64_0 : in64 0 := ⟨by decide, by decide⟩
theorem fitR_zero (n : Nat) : FitR n zeroRep := ⟨⟨in64_0, in64_0, in64_0, in64_0, zeroD_length⟩, Nat.zero_le _, Nat.zero_le _, Nat.zero_le _⟩
theorem countV_in (s : List UInt8) : in64 (countV s).1 := by
  unfold countV
  split
  · exact in64_0
  · exact numV_in s
theorem say_fit {n k : Nat} {r : RepV} {s : List UInt8} (hr : FitR n r) (hs : s.length ≤ n) : FitR n (sayV r k s).1 := by
  obtain ⟨⟨he, hi, hk, hn, hd⟩, hb, hl, hj⟩ := hr
  have hc := countV_in s
  unfold sayV
  split
  · exact ⟨⟨he, hc, hk, hn, hd⟩, hb, hl, hj⟩
  · exact ⟨⟨he, hi, hc, hn, hd⟩, hb, hl, hj⟩
  · exact ⟨⟨he, hi, hk, hc, hd⟩, hb, hl, hj⟩
  · split
    · exact ⟨⟨he, hi, hk, hn, digD_length s⟩, hb, hl, hj⟩
    · exact ⟨⟨he, hi, hk, hn, hd⟩, hb, hl, hj⟩
  · split
    · exact ⟨⟨he, hi, hk, hn, hd⟩, Nat.le_trans (hexP_le _) (by rw [List.length_tail]; omega), hl, hj⟩
    · exact ⟨⟨he, hi, hk, hn, hd⟩, hb, hl, hj⟩
  · split
    · refine ⟨⟨he, hi, hk, hn, hd⟩, hb, ?_, ?_⟩
      · have := split_count 44 s; show (splitC 44 s).length ≤ _; omega
      · show (joinC 44 (splitC 44 s)).length ≤ _; rw [join_split]; exact hs
    · exact ⟨⟨he, hi, hk, hn, hd⟩, hb, hl, hj⟩
theorem says_fit {n : Nat} : ∀ (ws : List (List UInt8)) (r : RepV) (k : Nat), FitR n r → (∀ s ∈ ws, s.length ≤ n) → FitR n (saysV r k ws).1
  | [], _, _, h, _ => h
  | w :: ws, r, k, h, hs => by
    rw [saysV_cons]
    cases hc : cutE w with
    | none => exact fitR_zero n
    | some p =>
      obtain ⟨key, v⟩ := p
      have hv : v.length ≤ n := by
        have h1 := hs w (List.mem_cons_self ..)
        have h2 : w.length = key.length + (v.length + 1) := by rw [cutE_join hc]; simp
        omega
      simp only
      split
      · split
        · exact fitR_zero n
        · exact says_fit ws _ _ (say_fit h hv) fun s hs' => hs s (List.mem_cons_of_mem _ hs')
      · exact fitR_zero n
theorem failed_fit (n : Nat) : ∀ ws : List (List UInt8), FitR n (failedV ws).1
  | [w] => ⟨⟨countV_in w, in64_0, in64_0, in64_0, zeroD_length⟩, Nat.zero_le _, Nat.zero_le _, Nat.zero_le _⟩
  | [] => fitR_zero n
  | _ :: _ :: _ => fitR_zero n
theorem answer_fit {n : Nat} {s : List UInt8} (hs : s.length ≤ n) : FitR n (answerV s).1 := by
  have hw : ∀ x ∈ splitC 32 s, x.length ≤ n := fun x hx => Nat.le_trans (split_le 32 s x hx) hs
  unfold answerV
  generalize splitC 32 s = L at *
  cases L with
  | nil => exact fitR_zero n
  | cons x ws =>
    rw [answersV_cons]
    split
    · exact failed_fit n ws
    · split
      · exact says_fit ws _ _ (fitR_zero n) fun s hs' => hw s (List.mem_cons_of_mem _ hs')
      · exact fitR_zero n
theorem rep_stored (w : World) (r : RepV) (v1 v2 : Value) : ((w.alloc (.cells zeroRS.toArray 37)).setRow w.heap.size (repV r v1 v2).toArray).rangeAt w.heap.size 0 (repV r v1 v2) ∧ Below w.heap.size w ((w.alloc (.cells zeroRS.toArray 37)).setRow w.heap.size (repV r v1 v2).toArray) :=
  ⟨rangeAt_of_row (setRow_heap _ _ _ _ _ _ (World.alloc_heap_new _ _)), below_setRow ((Below.refl _ _).alloc (Nat.le_refl _) _) (Nat.le_refl _) _⟩
set_option maxHeartbeats 4000000 in
set_option maxRecDepth 100000 in
theorem law_answers (s : ByteArray) (w : World) (hs : s.size ≤ 1048576) (hE : LEnv w) : Calls Tryz.prog 5 #[.string s] w fun e w' => e = .returned (.bool true) ∧ Below w.heap.size w w' := by
  have hrf := answer_fit (n := 1048576) (s := s.data.toList) (by simpa using hs)
  have hra := fun h => reply_answer (s := s.data.toList) h
  have hr1 := answer_calls s w (by omega) hE
  have hr2 := fun W => refAnswer_calls s W (by omega)
  obtain ⟨⟨r, er⟩, hrv⟩ : ∃ rv, answerV s.data.toList = rv := ⟨_, rfl⟩
  simp only [hrv] at hrf hr1 hr2 hra
  have hd := hrf.1.2.2.2.2
  have HRF := Lib.hid hrf
  have HR1 := Lib.hid hr1
  have HR2 := Lib.hid hr2
  have HRA := Lib.hid hra
  have HE := Lib.hid hE
  clear hrf hr1 hr2 hE hrv hra
  go_enter Tryz.func5, Tryz.ntmps5
  go_upto_region 2 with (first | (go_at_call 13; refine HR1.out.mono ?_; rintro e w1 ⟨_, rfl, ⟨A, c1, A2, c2, rfl, hc, hc2, hc3⟩, hb1⟩; have HC := Lib.hid hc; have HN := Lib.hid hc2; have HCAP := Lib.hid hc3; have HB1 := Lib.hid hb1; clear hb1 hc hc2 hc3) | ((with_reducible apply wpList_store_rep w1.heap.size (c0 := zeroRS)); (case hy => rfl); (case hx => rfl); (case hf => exact repV_length _ _ _ hd); (case hf0 => exact zeroRS_length); (case h1 => exact repV_one _ _ _ rfl rfl); (case hg => exact World.alloc_heap_new _ _)))
  change Code.wp _ _ _ _ ((w1.alloc (.cells zeroRS.toArray 37)).setRow w1.heap.size (repS r A c1 A2 c2).toArray)
  obtain ⟨hrg1, hb2⟩ := rep_stored w1 r (.slice A r.b.length c1) (.slice A2 r.l.length c2)
  have HC2 := Lib.hid (HC.out.below hb2)
  have HN2 := Lib.hid (HN.out.below hb2)
  have HB2 := Lib.hid (HB1.out.trans (hb2.mono HB1.out.size))
  generalize (w1.alloc (.cells zeroRS.toArray 37)).setRow w1.heap.size (repS r A c1 A2 c2).toArray = w2 at *
  generalize w1.heap.size = g1 at *
  have HRG1 := Lib.hid hrg1
  clear hrg1 hb2 HC HN HB1
  go_upto_region 3 with (first | (go_at_call 14; refine (HR2.out _).mono ?_; rintro e w3 ⟨_, rfl, ⟨B, d1, B2, d2, rfl, hc, hc2, hc3⟩, hb3⟩; have HC3 := Lib.hid hc; have HN3 := Lib.hid hc2; have HB3 := Lib.hid hb3; clear hb3 hc hc2 hc3) | ((with_reducible apply wpList_store_rep w3.heap.size (c0 := zeroRS)); (case hy => rfl); (case hx => rfl); (case hf => exact repV_length _ _ _ hd); (case hf0 => exact zeroRS_length); (case h1 => exact repV_one _ _ _ rfl rfl); (case hg => exact World.alloc_heap_new _ _)))
  change Code.wp _ _ _ _ ((w3.alloc (.cells zeroRS.toArray 37)).setRow w3.heap.size (repS r B d1 B2 d2).toArray)
  obtain ⟨hrg2, hb4⟩ := rep_stored w3 r (.slice B r.b.length d1) (.slice B2 r.l.length d2)
  have HC4 := Lib.hid (HC3.out.below hb4)
  have HN4 := Lib.hid (HN3.out.below hb4)
  have HC5 := Lib.hid ((HC2.out.below HB3.out).below hb4)
  have HN5 := Lib.hid ((HN2.out.below HB3.out).below hb4)
  have HRG3 := Lib.hid (rangeAt_below (rangeAt_below HRG1.out HB3.out) hb4)
  have HB4 := Lib.hid (HB2.out.trans ((HB3.out.trans (hb4.mono HB3.out.size)).mono HB2.out.size))
  generalize (w3.alloc (.cells zeroRS.toArray 37)).setRow w3.heap.size (repS r B d1 B2 d2).toArray = w4 at *
  generalize w3.heap.size = g2 at *
  have HRG2 := Lib.hid hrg2
  have HSM := Lib.hid (sameReply_calls r A B A2 B2 c1 c2 d1 d2 w4 hd HC5.out HC4.out HN5.out HN4.out (by have := HRF.out.2.1; omega) (by have := HRF.out.2.2.1; omega))
  clear hrg2 hb4 HC3 HRG1 HC2 HB3 HC4 HN2 HN3 HN4
  by_cases he : er = 0
  · subst he
    have hrs := HRA.out rfl
    have HRP : Hid (∀ W, Below w4.heap.size w4 W → Calls Tryz.prog 11 #[.agg (repS r A c1 A2 c2).toArray] W fun e w' => e = .returned (.string s) ∧ Below W.heap.size W w') := fun W h => by
      have h1 := reply_calls r A c1 A2 c2 W ⟨HRF.out.1, HC5.out.below h, HN5.out.below h, HCAP.out, HRF.out.2.1, by have := HRF.out.2.2.1; omega, by have := HRF.out.2.2.2; omega⟩ ((HE.out.below HB4.out).below h).env.1
      rw [hrs] at h1
      exact h1
    clear hrs
    go_wp2_with (first | ((with_reducible apply wpList_load_repG g2 (repS r B d1 B2 d2)); rfl; exact HRG2.out; exact repV_length _ _ _ hd; rfl) | (go_at_call 15; refine HSM.out.mono ?_; rintro e w5 ⟨rfl, hb5⟩; have HB45 := Lib.hid hb5; have HRG5 := Lib.hid (rangeAt_below HRG3.out hb5); clear hb5) | ((with_reducible apply wpList_load_repG g1 (repS r A c1 A2 c2)); rfl; (first | exact HRG5.out | exact HRG3.out); exact repV_length _ _ _ hd; rfl) | (go_at_call 11; refine (HRP.out _ HB45.out).mono ?_; rintro e w6 ⟨rfl, hb6⟩; have HB6 := Lib.hid (HB4.out.trans ((HB45.out.trans (hb6.mono HB45.out.size)).mono HB4.out.size)); clear hb6) | (go_at_call 10; refine (lives_calls _ (HE.out.below HB6.out)).mono ?_; rintro e w7 ⟨rfl, hb7⟩))
    go_ret
    exact ⟨rfl, HB6.out.trans (hb7.mono HB6.out.size)⟩
  · have q1 : (er != 0) = true := by rw [bne_iff_ne]; exact he
    go_wp2_with (first | ((with_reducible apply wpList_load_repG g1 (repS r A c1 A2 c2)); rfl; exact HRG3.out; exact repV_length _ _ _ hd; rfl) | ((with_reducible apply wpList_load_repG g2 (repS r B d1 B2 d2)); rfl; exact HRG2.out; exact repV_length _ _ _ hd; rfl) | (go_at_call 15; refine HSM.out.mono ?_; rintro e w5 ⟨rfl, hb5⟩; have HB5 := Lib.hid (HB4.out.trans (hb5.mono HB4.out.size)); clear hb5) | (go_at_call 10; refine (lives_calls _ (HE.out.below HB5.out)).mono ?_; rintro e w7 ⟨rfl, hb7⟩))
    go_ret
    exact ⟨rfl, HB5.out.trans (hb7.mono HB5.out.size)⟩
end Go.Proofs.YtjplfkcelkijfaaGreatDoor
