/- line.Answer. Condition: a line of at most 8388608 bytes; what lies in variables. -/
import Derived.Deep.CutRange
import Derived.Deep.LoopGhost
import Derived.Test.YtjplfkcelkijfaaGreatDoorYb
namespace Go.Proofs.YtjplfkcelkijfaaGreatDoor
open Go.RowKit

set_option maxHeartbeats 4000000 in
set_option maxRecDepth 100000 in
theorem answer_calls (s : ByteArray) (w : World) (hs : s.size ≤ 8388608) (hE : LEnv w) :
    Calls Tryz.prog 13 #[.string s] w fun e w' => ∃ v, e = .returned (.tuple #[v, .int .i64 (answerV s.data.toList).2]) ∧ RepVal w' v (answerV s.data.toList).1 ∧ Below w.heap.size w w' := by
  have hb0 : Below w.heap.size w (w.alloc (.cells zeroRS.toArray 37)) := (Below.refl _ _).alloc (Nat.le_refl _) _
  have hr0 : (w.alloc (.cells zeroRS.toArray 37)).heap[w.heap.size]? = some (.cells zeroRS.toArray 37 (0, 0)) := World.alloc_heap_new _ _
  have hE0 := hE.below hb0
  have hne := splitC_ne 32 s.data.toList
  go_enter Tryz.func13, Tryz.ntmps13
  go_upto_region 1 with (fail)
  change Code.wp _ _ _ _ (w.alloc (.cells zeroRS.toArray 37))
  generalize w.alloc (.cells zeroRS.toArray 37) = w0 at *
  obtain ⟨hE1, m, hm⟩ := hE0
  have HW := Lib.hid (words_calls s 32 m w0 hs hm)
  have HB0 := Lib.hid hb0
  have HR0 := Lib.hid hr0
  have HE1 := Lib.hid (LEnv.mk hE1 ⟨m, hm⟩)
  clear hb0 hr0 hE1 hE hm
  go_step3
  go_wp2_with fail
  refine HW.out.mono ?_
  rintro e w1 ⟨a, rfl, hst, b1⟩
  have HB1 := Lib.hid b1
  have HST := Lib.hid hst
  have HE2 := Lib.hid (HE1.out.below b1)
  have HR1 := Lib.hid ((b1.block _ (lt_of_block HR0.out)).trans HR0.out)
  have hA : Hid (answerV s.data.toList = answersV (splitC 32 s.data.toList)) := rfl
  have hwl : Hid (∀ x ∈ splitC 32 s.data.toList, x.length ≤ 8388608) := words_small s hs
  have hlen : (splitC 32 s.data.toList).length ≤ 8388609 := by
    have aux : ∀ l : List UInt8, (splitC 32 l).length ≤ l.length + 1 := by
      intro l
      induction l with
      | nil => simp [splitC]
      | cons y t ih =>
        have e : splitC 32 (y :: t) = if y = 32 then [] :: splitC 32 t else (y :: (splitC 32 t).headD []) :: (splitC 32 t).tail := rfl
        rw [e]; split
        · simp; omega
        · simp; omega
    have := aux s.data.toList
    simp at this; omega
  have hlt0 := lt_of_block HR0.out
  have hs1 := b1.size
  clear b1 hst HW HE1
  generalize splitC 32 s.data.toList = L at *
  cases L with
  | nil => exact absurd rfl hne
  | cons x0 r =>
    rw [answersV_cons] at hA
    simp only [List.length_cons] at HST hlen
    obtain ⟨a', c', ea, hcl⟩ := HST.out
    obtain ⟨g1, o1, rfl, c0⟩ := hcl 0 x0 rfl
    obtain ⟨rfl, rfl⟩ : a = ⟨g1, o1, none⟩ ∧ r.length + 1 = c' := by
      injection ea with ea _ ec
      injection ea with ea
      exact ⟨ea, ec⟩
    clear ea
    have HCL := Lib.hid hcl
    clear hcl
    rw [Nat.add_zero] at c0
    have hpos : (0 : Int) < (r.length : Int) + 1 := by omega
    have hrl : (r.length : Int) ≤ 8388608 := by omega
    simp only [List.length_cons]
    by_cases he : x0 = errW
    · subst he
      rw [if_pos rfl] at hA
      have HF := Lib.hid (failed_calls errW r (some ⟨g1, o1, none⟩) (r.length + 1) w1 HST.out hwl.out (by omega) HE2.out.env)
      have hfd := failed_d r
      have hfb := failed_b r
      have q1 : (errW == [101, 114, 114, 111, 114]) = true := rfl
      obtain ⟨⟨FR, FE⟩, hFV⟩ : ∃ fv, failedV r = fv := ⟨_, rfl⟩
      rw [hFV] at hA HF hfd hfb
      have HV := hA
      clear hA hlen hFV
      have hfd' : FR.d.length = 32 := by rw [hfd]; exact zeroD_length
      go_wp2_with (first | (go_at_call 35; refine HF.out.mono ?_; rintro e w2 ⟨_, rfl, ⟨A, c1, A2, c2, rfl, hca, hsa, hcap⟩, hb2⟩; have HR2 := Lib.hid ((hb2.block _ (by omega)).trans HR1.out); have HB2 := Lib.hid ((HB0.out.trans (HB1.out.mono (by omega))).trans (hb2.mono (by omega))); have HCA := Lib.hid hca; have HSA := Lib.hid hsa; clear hca hsa hb2) | ((with_reducible apply wpList_store_rep w.heap.size (c0 := zeroRS)); (case hy => rfl); (case hx => rfl); (case hf => exact repV_length _ _ _ hfd'); (case hf0 => exact zeroRS_length); (case h1 => exact repV_one _ _ _ rfl rfl); (case hg => exact HR2.out)))
      go_big_unhide
      simp only [Exit.noGoto]
      refine bodyPost_ret_by (results_rep rfl _ _ w.heap.size (repS FR A c1 A2 c2) _ (repV_length _ _ _ hfd') rfl (setRow_heap _ _ _ (repS FR A c1 A2 c2).toArray _ _ HR2.out) rfl) rfl ?_
      rw [HV.out]
      refine ⟨_, rfl, ⟨A, c1, A2, c2, rfl, fun k v hk => by rw [hfb] at hk; simp [Lib.byteCells] at hk, strs_setRow HSA.out HR2.out zeroRS_no_str, hcap⟩, below_setRow HB2.out (Nat.le_refl _) _⟩
    · rw [if_neg he] at hA
      by_cases ho : x0 = okW
      · subst ho
        rw [if_pos rfl] at hA
        have HV := hA
        have q1 : (okW == [101, 114, 114, 111, 114]) = false := by decide
        have q2 : (okW == [111, 107]) = true := rfl
        clear hA
        go_upto_region 8 with fail
        change Code.wp _ _ _ _ (w1.alloc (.cells zeroRS.toArray 37))
        have hrep : RepIn (w1.alloc (.cells zeroRS.toArray 37)) w1.heap.size zeroRep := repIn_zero w1
        have hb2 : Below w1.heap.size w1 (w1.alloc (.cells zeroRS.toArray 37)) := (Below.refl _ _).alloc (Nat.le_refl _) _
        generalize w1.alloc (.cells zeroRS.toArray 37) = w2 at *
        have HREP := Lib.hid hrep
        have HB2 := Lib.hid hb2
        clear hrep hb2
        by_cases hrn : r = []
        · subst hrn
          have HSV : Hid (saysV zeroRep 0 [] = (zeroRep, 0)) := rfl
          have HRW := HREP
          have HBW := HB2
          go_wp2_with fail
          go_step3
          go_wp2_with fail
          go_loopg [6, 31] 0 (fun n v6 v31 wr => v6 = .int .i64 0 ∧ v31 = .int .i64 0 ∧ wr = w2)
          case atStart => exact ⟨rfl, rfl, rfl⟩
          case round =>
            obtain ⟨rfl, rfl, rfl⟩ := hrel
            obtain ⟨⟨A, c1, A2, c2, hrow, hcells, hap, hstr, hcap⟩, hd⟩ := HRW.out
            have hRR := (HBW.out.block _ (by omega)).trans HR1.out
            have HROW := Lib.hid (rangeAt_of_row hrow)
            have HRR := Lib.hid hRR
            have HCELLS := Lib.hid hcells
            have HAP := Lib.hid hap
            have HSTR := Lib.hid hstr
            clear hrow hcells hap hstr hRR
            go_wp2_with (first | ((with_reducible apply wpList_load_repG w1.heap.size (repS zeroRep A c1 A2 c2)); rfl; exact HROW.out; exact repV_length _ _ _ hd; rfl) | ((with_reducible apply wpList_store_rep w.heap.size (c0 := zeroRS)); (case hy => rfl); (case hx => rfl); (case hf => exact repV_length _ _ _ hd); (case hf0 => exact zeroRS_length); (case h1 => exact repV_one _ _ _ rfl rfl); (case hg => exact HRR.out)))
            try go_big_unhide
            try simp only [Exit.noGoto]
            refine bodyPost_ret_by (results_rep rfl _ _ w.heap.size (repS zeroRep A c1 A2 c2) _ (repV_length _ _ _ hd) rfl (setRow_heap _ _ _ (repS zeroRep A c1 A2 c2).toArray _ _ HRR.out) rfl) rfl ?_
            rw [HV.out, HSV.out]
            exact ⟨_, rfl, repVal_set HCELLS.out (fun a e => by have := HAP.out a e; omega) HSTR.out hcap HRR.out, below_setRow ((HB0.out.trans (HB1.out.mono (by omega))).trans (HBW.out.mono (by omega))) (Nat.le_refl _) _⟩
        · go_wp2_with fail
          go_step3
          go_wp2_with fail
          go_loopg [6, 31] r.length (fun n v6 v31 wr => ∃ (k nx : Nat) (rr : RepV), v6 = .int .i64 nx ∧ v31 = .int .i64 k ∧ (k : Int) + n = r.length ∧ nx ≤ 6 ∧ Hid (saysV zeroRep 0 r = saysV rr nx (r.drop k)) ∧ Hid (RepIn wr w1.heap.size rr) ∧ Hid (Below w1.heap.size w1 wr))
          case atStart => exact ⟨0, 0, zeroRep, rfl, rfl, by omega, by omega, rfl, HREP.out, HB2.out⟩
          case round =>
            obtain ⟨k, nx, rr, rfl, rfl, hk, hnx, hsv, HRW, HBW⟩ := hrel
            by_cases hlt : (k : Int) < r.length
            · have hlt' : k < r.length := by omega
              have hsz := HBW.out.size
              obtain ⟨x, hx⟩ : ∃ x, r[k]? = some x := ⟨_, List.getElem?_eq_getElem (by omega)⟩
              obtain ⟨g, o, ea, hcx⟩ := HCL.out (k + 1) x hx
              obtain ⟨rfl, rfl⟩ : g1 = g ∧ o1 = o := by
                injection ea with ea
                injection ea with e1 e2
                exact ⟨e1, e2⟩
              have hxl : x.length ≤ 8388608 := hwl.out x (List.mem_cons_of_mem _ (List.mem_of_getElem? hx))
              have hcx2 : wr.cell? ⟨g1, o1 + 1 + k, none⟩ = some (.string ⟨x.toArray⟩) := by
                rw [show o1 + 1 + k = o1 + (k + 1) by omega]
                exact (HBW.out.cell (p := ⟨g1, o1 + (k + 1), none⟩) (World.block_lt_of_cell? _ _ hcx)).trans hcx
              have hdr : r.drop k = x :: r.drop (k + 1) := Lib.drop_at hx
              rw [hdr] at hsv
              obtain ⟨mx, hmx⟩ := (HE2.out.below HBW.out).max
              have HCT := Lib.hid (cutw_calls x mx wr hxl hmx)
              have HHS := Lib.hid (fun W => hasw_calls x W)
              clear ea hcx hx hdr hmx
              obtain ⟨wo, rfl⟩ : ∃ wo : World, wo = wr := ⟨_, rfl⟩
              obtain ⟨go, rfl⟩ : ∃ go : Nat, go = gk := ⟨_, rfl⟩
              go_wp2_with (go_at_call 36; refine HCT.out.mono ?_; rintro e w3 ⟨⟨key, v, f, rfl, hkv⟩, hb3⟩; have HKV := Lib.hid hkv; have HB3 := Lib.hid hb3; clear hkv hb3)
              have hb3 := HB3.out
              have HRW3 := Lib.hid (HRW.out.below hb3)
              have HBW3 := Lib.hid (HBW.out.trans (hb3.mono hsz))
              have hgo : (k : Int) + 1 ≤ r.length := by omega
              clear hb3 HRW HBW HB3 HCT hcx2
              go_loopg [12] (6 - nx) (fun n j wi => ∃ q : Nat, j = .int .i64 q ∧ nx ≤ q ∧ q + n = 6 ∧ Hid ((cutE x).isSome = true → ∀ i, nx ≤ i → i < q → keyL i ≠ key) ∧ Hid (RepIn wi w1.heap.size rr) ∧ Hid (Below w1.heap.size w1 wi))
              case atStart => exact ⟨nx, rfl, Nat.le_refl _, by omega, fun _ i h1 h2 => by omega, HRW3.out, HBW3.out⟩
              case round =>
                obtain ⟨q, rfl, hnq, hq, HNO, HRW4, HBW4⟩ := hrel
                have hsz4 := HBW4.out.size
                by_cases hq6 : (q : Int) < 6
                · have hq6' : q < 6 := by omega
                  cases hcut : cutE x with
                  | none =>
                    have HHN : Hid (∀ W, Calls Tryz.prog 37 #[.string ⟨x.toArray⟩, .string ⟨#[61]⟩] W fun e w' => e = .returned (.bool false) ∧ w' = W) := fun W => by
                      have := HHS.out W
                      rw [hcut] at this; exact this
                    have HNO2 : Hid ((cutE x).isSome = true → ∀ i, nx ≤ i → i < q + 1 → keyL i ≠ key) := fun h => by rw [hcut] at h; cases h
                    clear hcut HNO HHS
                    go_wp2_with (go_at_call 37; refine (HHN.out _).mono ?_; rintro e w5 ⟨rfl, rfl⟩)
                    go_roundg (gk - 1)
                    case measure => omega
                    case rel => exact ⟨q + 1, by go_num, by omega, by omega, HNO2.out, HRW4.out, HBW4.out⟩
                  | some p =>
                    obtain ⟨key', v'⟩ := p
                    obtain ⟨rfl, rfl⟩ := HKV.out _ hcut
                    have HHN : Hid (∀ W, Calls Tryz.prog 37 #[.string ⟨x.toArray⟩, .string ⟨#[61]⟩] W fun e w' => e = .returned (.bool true) ∧ w' = W) := fun W => by
                      have := HHS.out W
                      rw [hcut] at this; exact this
                    have HCUT := Lib.hid hcut
                    have HNO3 := Lib.hid (HNO.out (by rw [hcut]; rfl))
                    have hvs : Hid (v.length ≤ 8388608) := by
                      have h1 := cutE_join hcut
                      show _ ≤ _
                      have h2 : x.length = key.length + (v.length + 1) := by rw [h1]; simp
                      omega
                    clear hcut HNO HHS HKV
                    by_cases hkk : keyL q = key
                    · have q5 : (keyL q == key) = true := beq_iff_eq.2 hkk
                      have q6 : (keyL q != key) = false := by rw [bne_eq_false_iff_eq]; exact hkk
                      obtain ⟨⟨r2, e2⟩, hsay⟩ : ∃ p, sayV rr q v = p := ⟨_, rfl⟩
                      have HSY := Lib.hid (fun W h0 hx => say_calls rr w1.heap.size q ⟨v.toArray⟩ w1 W h0 HE2.out hx (by show v.toArray.size ≤ _; simpa using hvs.out) (by omega))
                      simp only [show (⟨v.toArray⟩ : ByteArray).data.toList = v by simp, hsay] at HSY
                      rw [← hkk] at HCUT
                      by_cases he2 : e2 = 0
                      · subst he2
                        have HSV : Hid (saysV zeroRep 0 r = saysV r2 (q + 1) (r.drop (k + 1))) := by
                          show _ = _
                          rw [hsv.out]; exact saysV_ok HCUT.out hq6' hnq hsay
                        clear hsay hsv
                        go_wp2_with (first | (go_at_call 37; refine (HHN.out _).mono ?_; rintro e w5 ⟨rfl, rfl⟩) | (go_at_call 38; refine (keys_calls _).mono ?_; rintro e w5 ⟨rfl, hb5⟩; have HRW5 := Lib.hid (HRW4.out.below hb5); have HBW5 := Lib.hid (HBW4.out.trans (hb5.mono hsz4)); clear hb5) | ((with_reducible apply wpList_index_keys q hq6'); rfl; rfl; rfl) | (go_at_call 39; refine (HSY.out _ HBW5.out HRW5.out).mono ?_; rintro e w6 ⟨rfl, hr6, hg6⟩; have HR6 := Lib.hid (hr6 (by first | rfl | trivial)); have HB6 := Lib.hid (HBW5.out.grown hg6 HBW5.out.size (fun k e => by injection e with e; omega)); clear hr6 hg6))
                        go_roundg (go - 1)
                        case measure => omega
                        case rel => exact ⟨k + 1, q + 1, r2, by go_num, by go_num, by omega, by omega, HSV.out, HR6.out, HB6.out⟩
                      · have q7 : (e2 != 0) = true := by rw [bne_iff_ne]; exact he2
                        have HSV : Hid (saysV zeroRep 0 r = (zeroRep, e2)) := by
                          show _ = _
                          rw [hsv.out]; exact saysV_bad HCUT.out hq6' hnq hsay he2
                        clear hsay hsv
                        go_wp2_with (first | (go_at_call 37; refine (HHN.out _).mono ?_; rintro e w5 ⟨rfl, rfl⟩) | (go_at_call 38; refine (keys_calls _).mono ?_; rintro e w5 ⟨rfl, hb5⟩; have HRW5 := Lib.hid (HRW4.out.below hb5); have HBW5 := Lib.hid (HBW4.out.trans (hb5.mono hsz4)); clear hb5) | ((with_reducible apply wpList_index_keys q hq6'); rfl; rfl; rfl) | (go_at_call 39; refine (HSY.out _ HBW5.out HRW5.out).mono ?_; rintro e w6 ⟨rfl, hr6, hg6⟩; have HBX := Lib.hid (HBW5.out.grown hg6 HBW5.out.size (fun k e => by injection e with e; omega)); have HRR := Lib.hid ((HBX.out.block _ (by omega)).trans HR1.out); clear hr6 hg6) | (with_reducible refine wpList_build_zrep ?_) | ((with_reducible apply wpList_store_rep w.heap.size (c0 := zeroRS)); (case hy => rfl); (case hx => rfl); (case hf => exact zeroRS_length); (case hf0 => exact zeroRS_length); (case h1 => exact repV_one _ _ _ rfl rfl); (case hg => exact HRR.out)))
                        try go_big_unhide
                        try simp only [Exit.noGoto]
                        refine bodyPost_ret_by (results_rep rfl _ _ w.heap.size zeroRS _ zeroRS_length rfl (setRow_heap _ _ _ zeroRS.toArray _ _ HRR.out) rfl) rfl ?_
                        rw [HV.out, HSV.out]
                        exact ⟨_, rfl, repVal_nil _ 0, below_setRow ((HB0.out.trans (HB1.out.mono (by omega))).trans (HBX.out.mono (by omega))) (Nat.le_refl _) _⟩
                    · have q5 : (keyL q == key) = false := beq_eq_false_iff_ne.2 hkk
                      have q6 : (keyL q != key) = true := by rw [bne_iff_ne]; exact hkk
                      have HNO2 : Hid ((cutE x).isSome = true → ∀ i, nx ≤ i → i < q + 1 → keyL i ≠ key) := fun _ i h1 h2 => by
                        by_cases e : i = q
                        · subst e; exact hkk
                        · exact HNO3.out i h1 (by omega)
                      go_wp2_with (first | (go_at_call 37; refine (HHN.out _).mono ?_; rintro e w5 ⟨rfl, rfl⟩) | (go_at_call 38; refine (keys_calls _).mono ?_; rintro e w5 ⟨rfl, hb5⟩; have HRW5 := Lib.hid (HRW4.out.below hb5); have HBW5 := Lib.hid (HBW4.out.trans (hb5.mono hsz4)); clear hb5) | ((with_reducible apply wpList_index_keys q hq6'); rfl; rfl; rfl))
                      go_roundg (gk - 1)
                      case measure => omega
                      case rel => exact ⟨q + 1, by go_num, by omega, by omega, HNO2.out, HRW5.out, HBW5.out⟩
                · have HSV : Hid (saysV zeroRep 0 r = (zeroRep, 3)) := by
                    show _ = _
                    rw [hsv.out]
                    cases hcut : cutE x with
                    | none => exact saysV_none hcut
                    | some p =>
                      obtain ⟨key', v'⟩ := p
                      obtain ⟨rfl, rfl⟩ := HKV.out _ hcut
                      exact saysV_no hcut fun i h1 h2 => HNO.out (by rw [hcut]; rfl) i h1 (by omega)
                  have HBX := HBW4
                  have HRR := Lib.hid ((HBX.out.block _ (by omega)).trans HR1.out)
                  go_wp2_with (first | (with_reducible refine wpList_build_zrep ?_) | ((with_reducible apply wpList_store_rep w.heap.size (c0 := zeroRS)); (case hy => rfl); (case hx => rfl); (case hf => exact zeroRS_length); (case hf0 => exact zeroRS_length); (case h1 => exact repV_one _ _ _ rfl rfl); (case hg => exact HRR.out)))
                  try go_big_unhide
                  try simp only [Exit.noGoto]
                  refine bodyPost_ret_by (results_rep rfl _ _ w.heap.size zeroRS _ zeroRS_length rfl (setRow_heap _ _ _ zeroRS.toArray _ _ HRR.out) rfl) rfl ?_
                  rw [HV.out, HSV.out]
                  exact ⟨_, rfl, repVal_nil _ 0, below_setRow ((HB0.out.trans (HB1.out.mono (by omega))).trans (HBX.out.mono (by omega))) (Nat.le_refl _) _⟩
            · have hke : k = r.length := by omega
              have HSV : Hid (saysV zeroRep 0 r = (rr, 0)) := by
                show _ = _
                rw [hsv.out, hke, List.drop_length]; rfl
              clear hsv
              obtain ⟨⟨A, c1, A2, c2, hrow, hcells, hap, hstr, hcap⟩, hd⟩ := HRW.out
              have hRR := (HBW.out.block _ (by omega)).trans HR1.out
              have HROW := Lib.hid (rangeAt_of_row hrow)
              have HRR := Lib.hid hRR
              have HCELLS := Lib.hid hcells
              have HAP := Lib.hid hap
              have HSTR := Lib.hid hstr
              clear hrow hcells hap hstr hRR
              go_wp2_with (first | ((with_reducible apply wpList_load_repG w1.heap.size (repS rr A c1 A2 c2)); rfl; exact HROW.out; exact repV_length _ _ _ hd; rfl) | ((with_reducible apply wpList_store_rep w.heap.size (c0 := zeroRS)); (case hy => rfl); (case hx => rfl); (case hf => exact repV_length _ _ _ hd); (case hf0 => exact zeroRS_length); (case h1 => exact repV_one _ _ _ rfl rfl); (case hg => exact HRR.out)))
              try go_big_unhide
              try simp only [Exit.noGoto]
              refine bodyPost_ret_by (results_rep rfl _ _ w.heap.size (repS rr A c1 A2 c2) _ (repV_length _ _ _ hd) rfl (setRow_heap _ _ _ (repS rr A c1 A2 c2).toArray _ _ HRR.out) rfl) rfl ?_
              rw [HV.out, HSV.out]
              exact ⟨_, rfl, repVal_set HCELLS.out (fun a e => by have := HAP.out a e; omega) HSTR.out hcap HRR.out, below_setRow ((HB0.out.trans (HB1.out.mono (by omega))).trans (HBW.out.mono (by omega))) (Nat.le_refl _) _⟩
      · rw [if_neg ho] at hA
        have q1 : (x0 == [101, 114, 114, 111, 114]) = false := beq_eq_false_iff_ne.2 he
        have q2 : (x0 == [111, 107]) = false := beq_eq_false_iff_ne.2 ho
        have HV := hA
        clear hA
        go_wp2_with (first | (with_reducible refine wpList_build_zrep ?_) | ((with_reducible apply wpList_store_rep w.heap.size (c0 := zeroRS)); (case hy => rfl); (case hx => rfl); (case hf => exact zeroRS_length); (case hf0 => exact zeroRS_length); (case h1 => exact repV_one _ _ _ rfl rfl); (case hg => exact HR1.out)))
        go_big_unhide
        simp only [Exit.noGoto]
        refine bodyPost_ret_by (results_rep rfl _ _ w.heap.size zeroRS _ zeroRS_length rfl (setRow_heap _ _ _ zeroRS.toArray _ _ HR1.out) rfl) rfl ?_
        rw [HV.out]
        exact ⟨_, rfl, repVal_nil _ 0, below_setRow (HB0.out.trans (HB1.out.mono (by omega))) (Nat.le_refl _) _⟩
end Go.Proofs.YtjplfkcelkijfaaGreatDoor
/- The reference's mine, split. Condition: words of at most 8388608 bytes. -/
namespace Go.Proofs.YtjplfkcelkijfaaGreatDoor
open Go.RowKit

/-- a word that begins with a key and = -/
def mineV (x key : List UInt8) : List UInt8 × Bool := if x.take (key.length + 1) = key ++ [61] then (x.drop (key.length + 1), true) else ([], false)
theorem mineV_cut {x key : List UInt8} (hk : ∀ c ∈ key, c ≠ 61) : mineV x key = match cutE x with | none => ([], false) | some p => if p.1 = key then (p.2, true) else ([], false) := by
  unfold mineV
  by_cases h : x.take (key.length + 1) = key ++ [61]
  · have hx : x = key ++ 61 :: x.drop (key.length + 1) := by
      conv => lhs; rw [← List.take_append_drop (key.length + 1) x, h]
      simp
    have hc := cutE_key (v := x.drop (key.length + 1)) hk
    rw [← hx] at hc
    rw [if_pos h, hc]
    exact (if_pos rfl).symm
  · rw [if_neg h]
    cases hc : cutE x with
    | none => rfl
    | some p =>
      obtain ⟨a, b⟩ := p
      by_cases e : a = key
      · subst e
        exact absurd (by rw [cutE_join hc, List.take_append, List.take_of_length_le (by omega), show a.length + 1 - a.length = 1 by omega]; rfl) h
      · exact (if_neg e).symm
set_option maxHeartbeats 2000000 in
set_option maxRecDepth 100000 in
theorem mine_calls (x key : List UInt8) (w : World) (hx : x.length ≤ 8388608) (hk : key.length ≤ 8) :
    Calls Tryz.prog 41 #[.string ⟨x.toArray⟩, .string ⟨key.toArray⟩] w fun e w' => e = .returned (.tuple #[.string ⟨(mineV x key).1.toArray⟩, .bool (mineV x key).2]) ∧ w = w' := by
  have hxs : (⟨x.toArray⟩ : ByteArray).size = x.length := by show x.toArray.size = _; simp
  have hks : (⟨key.toArray⟩ : ByteArray).size = key.length := by show key.toArray.size = _; simp
  have hxi : (x.length : Int) ≤ 8388608 := by omega
  have hki : (key.length : Int) ≤ 8 := by omega
  have hcat : Hid ((⟨key.toArray⟩ : ByteArray) ++ ⟨#[61]⟩ = ⟨(key ++ [61]).toArray⟩) := lits key [61]
  by_cases hlt : (x.length : Int) < key.length + 1
  · have HM : Hid (mineV x key = ([], false)) := by
      refine if_neg fun h => ?_
      have h1 := congrArg List.length h
      rw [List.length_take, List.length_append, List.length_singleton] at h1
      omega
    clear hx hk
    go_enter Tryz.func41, Tryz.ntmps41
    go_wp2_with fail
    go_ret2
    rw [HM.out]; exact ⟨rfl, rfl⟩
  · have hex : Hid ((⟨x.toArray⟩ : ByteArray).extract 0 (key.length + 1) = ⟨(x.take (key.length + 1)).toArray⟩) := by
      apply ByteArray.ext; apply Array.ext'
      rw [Lib.extract_data]; simp
    have hdr : Hid ((⟨x.toArray⟩ : ByteArray).extract (key.length + 1) x.length = ⟨(x.drop (key.length + 1)).toArray⟩) := by
      apply ByteArray.ext; apply Array.ext'
      rw [Lib.extract_data]
      simp only [List.take_of_length_le (show (List.drop (key.length + 1) x).length ≤ x.length - (key.length + 1) by rw [List.length_drop]; omega)]
    clear hx hk
    by_cases h : x.take (key.length + 1) = key ++ [61]
    · have HM : Hid (mineV x key = (x.drop (key.length + 1), true)) := if_pos h
      have q1 : (((⟨x.toArray⟩ : ByteArray).extract 0 (key.length + 1)).toList == ((⟨key.toArray⟩ : ByteArray) ++ ⟨#[61]⟩).toList) = true := by rw [hex.out, hcat.out, h]; simp
      clear h
      go_enter Tryz.func41, Tryz.ntmps41
      go_wp2_with fail
      go_ret2
      rw [HM.out, ← hdr.out]; exact ⟨rfl, rfl⟩
    · have HM : Hid (mineV x key = ([], false)) := if_neg h
      have q1 : (((⟨x.toArray⟩ : ByteArray).extract 0 (key.length + 1)).toList == ((⟨key.toArray⟩ : ByteArray) ++ ⟨#[61]⟩).toList) = false := by rw [hex.out, hcat.out, beq_eq_false_iff_ne]; simpa using h
      clear h
      go_enter Tryz.func41, Tryz.ntmps41
      go_wp2_with fail
      go_ret2
      rw [HM.out]; exact ⟨rfl, rfl⟩
end Go.Proofs.YtjplfkcelkijfaaGreatDoor

/- The reference's split. Condition: words of at most 8388608 bytes. -/
namespace Go.Proofs.YtjplfkcelkijfaaGreatDoor
open Go.RowKit

/-- the words still to come, behind the first bytes of one; a comma stands between two -/
def contD (w r : List UInt8) : List (List UInt8) := (w ++ (splitC 44 r).headD []) :: (splitC 44 r).tail
theorem contD_nil (w : List UInt8) : contD w [] = [w] := by simp [contD, splitC]
theorem contD_start (r : List UInt8) : contD [] r = splitC 44 r := by
  have := splitC_ne 44 r
  unfold contD
  cases h : splitC 44 r with
  | nil => exact absurd h this
  | cons a l => rfl
theorem contD_comma (w r : List UInt8) : contD w (44 :: r) = w :: contD [] r := by
  rw [contD_start]
  have e : splitC 44 (44 :: r) = [] :: splitC 44 r := by
    have : splitC 44 (44 :: r) = if (44 : UInt8) = 44 then [] :: splitC 44 r else (44 :: (splitC 44 r).headD []) :: (splitC 44 r).tail := rfl
    rw [this, if_pos rfl]
  unfold contD
  rw [e]; simp
theorem contD_byte {c : UInt8} (w r : List UInt8) (h : c ≠ 44) : contD w (c :: r) = contD (w ++ [c]) r := by
  have e : splitC 44 (c :: r) = (c :: (splitC 44 r).headD []) :: (splitC 44 r).tail := by
    have : splitC 44 (c :: r) = if c = 44 then [] :: splitC 44 r else (c :: (splitC 44 r).headD []) :: (splitC 44 r).tail := rfl
    rw [this, if_neg h]
  unfold contD
  rw [e]; simp
/-- the loop: L done, the next word begins at b, k bytes are read -/
structure NamesAt (s : List UInt8) (L : List (List UInt8)) (b k : Nat) : Prop where
  eq : k ≤ s.length → splitC 44 s = L ++ contD ((s.take k).drop b) (s.drop k)
  fin : k = s.length + 1 → splitC 44 s = L
  ok : ∀ x ∈ L, tagOk x = true
  len : L.length ≤ k
  bk : b ≤ k
theorem names_end {s : List UInt8} {L : List (List UInt8)} {b k : Nat} (h : NamesAt s L b k) (hk : k ≤ s.length) (hc : k = s.length ∨ s[k]? = some 44) : splitC 44 s = L ++ ((s.take k).drop b) :: (if k = s.length then [] else splitC 44 (s.drop (k + 1))) := by
  rw [h.eq hk]
  by_cases he : k = s.length
  · rw [if_pos he, he, List.drop_length, contD_nil]
  · rw [if_neg he]
    rcases hc with hc | hc
    · exact absurd hc he
    · have hd : s.drop k = 44 :: s.drop (k + 1) := Lib.drop_at hc
      rw [hd, contD_comma, contD_start]
theorem names_push {s : List UInt8} {L : List (List UInt8)} {b k : Nat} (h : NamesAt s L b k) (hk : k ≤ s.length) (hc : k = s.length ∨ s[k]? = some 44) (ht : tagOk ((s.take k).drop b) = true) : NamesAt s (L ++ [(s.take k).drop b]) (k + 1) (k + 1) := by
  have he := names_end h hk hc
  refine ⟨fun h2 => ?_, fun h2 => ?_, fun x hx => ?_, by simp; exact h.len, Nat.le_refl _⟩
  · rw [if_neg (by omega)] at he
    rw [he, show (s.take (k + 1)).drop (k + 1) = [] from List.drop_eq_nil_of_le (by rw [List.length_take]; omega), contD_start, List.append_assoc]; rfl
  · rw [if_pos (by omega)] at he
    exact he
  · rcases List.mem_append.1 hx with hx | hx
    · exact h.ok x hx
    · rw [List.mem_singleton.1 hx]; exact ht
theorem names_byte {s : List UInt8} {L : List (List UInt8)} {b k : Nat} {c : UInt8} (h : NamesAt s L b k) (hc : s[k]? = some c) (h44 : c ≠ 44) : NamesAt s L b (k + 1) := by
  have hlt := (List.getElem?_eq_some_iff.1 hc).1
  refine ⟨fun _ => ?_, fun h2 => by omega, h.ok, by have := h.len; omega, by have := h.bk; omega⟩
  have hd : s.drop k = c :: s.drop (k + 1) := Lib.drop_at hc
  rw [h.eq (by omega), hd, contD_byte _ _ h44, List.take_add_one, hc]
  rw [List.drop_append_of_le_length (by rw [List.length_take]; have := h.bk; omega)]; rfl
theorem names_bad {s : List UInt8} {L : List (List UInt8)} {b k : Nat} (h : NamesAt s L b k) (hk : k ≤ s.length) (hc : k = s.length ∨ s[k]? = some 44) (ht : tagOk ((s.take k).drop b) = false) : (splitC 44 s).all tagOk = false := by
  rw [Bool.eq_false_iff]
  intro ha
  have := List.all_eq_true.1 ha ((s.take k).drop b) (by rw [names_end h hk hc]; simp)
  rw [ht] at this; cases this
theorem ownsRow_cap {w : World} {B : Nat} {e : TypeId} {a : Option Addr} {n cap : Nat} {xs : List Value} (h : w.ownsRow B e 1 (.slice a n cap) n xs) : n ≤ cap := by
  rcases h.2 with ⟨h2, h3⟩ | ⟨g, c, cur, h3, _, _, h6, _⟩
  · omega
  · injection h3 with _ _ h3; omega
set_option maxHeartbeats 4000000 in
set_option maxRecDepth 100000 in
theorem refSplit_calls (s : ByteArray) (w : World) (hs : s.size ≤ 8388608) :
    Calls Tryz.prog 61 #[.string s] w fun e w' => ∃ A cap, e = .returned (.tuple #[.slice A (listV s.data.toList).length cap, .bool ((splitC 44 s.data.toList).all tagOk)]) ∧ StrsIn w' (.slice A (listV s.data.toList).length cap) (listV s.data.toList) ∧ (listV s.data.toList).length ≤ cap ∧ Below w.heap.size w w' := by
  obtain ⟨i0, hi, hz0, hz1, hz2⟩ := info_parts infoStr
  have hs' : (s.size : Int) ≤ 8388608 := by omega
  have hls : Hid (s.data.toList.length = s.size) := by show _ = _; simp
  clear hs
  go_enter Tryz.func61, Tryz.ntmps61
  go_wp2_with fail
  go_loopw [4, 5, 6] (fun v u i wr => ∃ (L : List (List UInt8)) (b k : Nat), i = .int .i64 k ∧ u = .int .i64 b ∧ (k : Int) ≤ s.size + 1 ∧ (b : Int) ≤ k ∧ Hid (NamesAt s.data.toList L b k) ∧ Hid (wr.ownsRow w.heap.size 9 1 v L.length (namC L)) ∧ Hid (Below w.heap.size w wr)) (fun _ _ i _ => s.size + 1 - (intOf i).toNat)
  case atStart => exact ⟨[], 0, 0, rfl, rfl, by omega, by omega, ⟨fun _ => by simp [contD_start], fun h => by omega, fun x h => (by cases h), Nat.le_refl _, Nat.le_refl _⟩, World.ownsRow_nil _ _ _ _, Below.refl _ _⟩
  case round =>
    obtain ⟨L, b, k, rfl, rfl, hk, hbk, hat, hown, hb⟩ := hrel
    have hsz := hb.out.size
    have hL := hat.out.len
    by_cases hlt : (k : Int) ≤ s.size
    · have hk' : k ≤ s.size := by omega
      have hext : Hid (s.extract b k = ⟨((s.data.toList.take k).drop b).toArray⟩) := by
        apply ByteArray.ext; apply Array.ext'
        rw [Lib.extract_data, List.drop_take]
      have htag := fun W => refTag_calls (s.extract b k) W (by rw [hext.out]; show (List.toArray _).size ≤ _; simp; omega)
      have hted : (s.extract b k).data.toList = (s.data.toList.take k).drop b := by rw [hext.out]
      rw [hted] at htag
      by_cases hA : k = s.size
      · obtain rfl := hA
        have hqA : ((s.size : Int) == s.size) = true := by rw [beq_iff_eq]
        cases hok : tagOk ((s.data.toList.take s.size).drop b) with
        | true =>
          rw [hok] at htag
          have HT := Lib.hid htag
          have HAT := Lib.hid (names_push hat.out (by rw [hls.out]; exact Nat.le_refl _) (.inl hls.out.symm) hok)
          clear htag hok hat hted
          go_wp2_with (first | (go_at_call 16; refine (HT.out _).mono ?_; rintro e w2 ⟨rfl, rfl⟩) | (at_builtin; refine wpList_append_own _ rfl _ _ 35 rfl w.heap.size 9 i0 (.string ByteArray.empty) 1 16 Tryz.underlying35 hi hz0 hz1 hz2 rfl (by decide) _ _ _ rfl (hown.out.alloc _) ⟨wr.heap.size, 0, none⟩ 1 1 [.string (s.extract b s.size)] rfl rfl (cell_one_new _ _ _) (by simp [Value.oneCell']) (by unfold maxLen; omega) (by omega) (by simp; omega) ?_; intro v' w1 hown' hgrow _; obtain ⟨g', cap', rfl⟩ := ownsRow_succ hown'))
          go_roundw
          case rel =>
            refine ⟨L ++ [(s.data.toList.take s.size).drop b], s.size + 1, s.size + 1, by go_num, by go_num, by omega, by omega, HAT, ?_, (hb.out.alloc hsz _).grown hgrow (by simp; omega) (fun r e => (hown.out.lt r e).1)⟩
            show World.ownsRow _ _ _ _ _ _ _
            rw [List.length_append, namC_snoc, ← hext.out]
            exact hown'
          case measure => (simp [intOf] <;> omega)
        | false =>
          rw [hok] at htag
          have HT := Lib.hid htag
          have hall := names_bad hat.out (by rw [hls.out]; exact Nat.le_refl _) (.inl hls.out.symm) hok
          have hLV : listV s.data.toList = [] := by unfold listV; rw [hall]; rfl
          have HLV := Lib.hid hLV
          have HALL := Lib.hid hall
          clear htag hok hat hted hall hLV
          go_wp2_with (go_at_call 16; refine (HT.out _).mono ?_; rintro e w2 ⟨rfl, rfl⟩)
          go_ret2
          refine ⟨none, 0, ?_, ?_, ?_, hb.out⟩
          · rw [HLV.out, HALL.out]; rfl
          · rw [HLV.out]; exact ⟨none, 0, rfl, fun q x hk => by simp at hk⟩
          · rw [HLV.out]; exact Nat.le_refl _
      · have hqA : ((k : Int) == s.size) = false := by rw [beq_eq_false_iff_ne]; omega
        have hk2 : k < s.size := by omega
        have hk3 : (k : Int) < s.size := by omega
        have hg := getElem_list s k hk2
        by_cases h44 : s[k] = 44
        · have hq : ((s[k].toNat : Int) == 44) = true := by rw [h44]; rfl
          rw [h44] at hg
          cases hok : tagOk ((s.data.toList.take k).drop b) with
          | true =>
            rw [hok] at htag
            have HT := Lib.hid htag
            have HAT := Lib.hid (names_push hat.out (by rw [hls.out]; exact hk') (.inr hg) hok)
            clear htag hok hat hted
            go_wp2_with (first | (go_at_call 16; refine (HT.out _).mono ?_; rintro e w2 ⟨rfl, rfl⟩) | (at_builtin; refine wpList_append_own _ rfl _ _ 35 rfl w.heap.size 9 i0 (.string ByteArray.empty) 1 16 Tryz.underlying35 hi hz0 hz1 hz2 rfl (by decide) _ _ _ rfl (hown.out.alloc _) ⟨wr.heap.size, 0, none⟩ 1 1 [.string (s.extract b k)] rfl rfl (cell_one_new _ _ _) (by simp [Value.oneCell']) (by unfold maxLen; omega) (by omega) (by simp; omega) ?_; intro v' w1 hown' hgrow _; obtain ⟨g', cap', rfl⟩ := ownsRow_succ hown'))
            go_roundw
            case rel =>
              refine ⟨L ++ [(s.data.toList.take k).drop b], k + 1, k + 1, by go_num, by go_num, by omega, by omega, HAT, ?_, (hb.out.alloc hsz _).grown hgrow (by simp; omega) (fun r e => (hown.out.lt r e).1)⟩
              show World.ownsRow _ _ _ _ _ _ _
              rw [List.length_append, namC_snoc, ← hext.out]
              exact hown'
            case measure => (simp [intOf] <;> omega)
          | false =>
            rw [hok] at htag
            have HT := Lib.hid htag
            have hall := names_bad hat.out (by rw [hls.out]; exact hk') (.inr hg) hok
            have hLV : listV s.data.toList = [] := by unfold listV; rw [hall]; rfl
            have HLV := Lib.hid hLV
            have HALL := Lib.hid hall
            clear htag hok hat hted hall hLV
            go_wp2_with (go_at_call 16; refine (HT.out _).mono ?_; rintro e w2 ⟨rfl, rfl⟩)
            go_ret2
            refine ⟨none, 0, ?_, ?_, ?_, hb.out⟩
            · rw [HLV.out, HALL.out]; rfl
            · rw [HLV.out]; exact ⟨none, 0, rfl, fun k x hk => by simp at hk⟩
            · rw [HLV.out]; exact Nat.le_refl _
        · have hq : ((s[k].toNat : Int) == 44) = false := by
            rw [beq_eq_false_iff_ne]
            intro e
            exact h44 (UInt8.toNat_inj.1 (by have : (44 : UInt8).toNat = 44 := rfl; omega))
          have HAT := Lib.hid (names_byte hat.out hg h44)
          clear htag hted hext hat hg h44
          go_wp2_with fail
          go_roundw
          case rel => exact ⟨L, b, k + 1, by go_num, rfl, by omega, by omega, HAT, hown, hb⟩
          case measure => (simp [intOf] <;> omega)
    · have hke : k = s.size + 1 := by omega
      have hF := hat.out.fin (by rw [hls.out]; exact hke)
      have hall : (splitC 44 s.data.toList).all tagOk = true := by rw [hF, List.all_eq_true]; exact hat.out.ok
      have hLV : listV s.data.toList = L := by unfold listV; rw [if_pos hall, hF]
      have HLV := Lib.hid hLV
      have HALL := Lib.hid hall
      obtain ⟨_, a, cap, rfl, _⟩ := cellsIn_of_owns hown.out
      clear hat hF hall hLV
      go_wp2_with fail
      go_ret2
      refine ⟨a, cap, ?_, ?_, ?_, hb.out⟩
      · rw [HLV.out, HALL.out]
        show Ending.returned (.tuple #[.slice a (namC L).length cap, .bool true]) = _
        rw [namC_length]
      · rw [HLV.out]; exact strsIn_of_owns hown.out
      · rw [HLV.out]; exact ownsRow_cap hown.out
end Go.Proofs.YtjplfkcelkijfaaGreatDoor

/- The reference's part: a part read into a reply. Condition: a word of at most 8388608 bytes. -/
namespace Go.Proofs.YtjplfkcelkijfaaGreatDoor
open Go.RowKit
attribute [local go_sem] equalIn_dig eqGuard39

/-- the parameter's block and the result's -/
structure TwoReps (w w1 : World) (r : RepV) (v1 v2 : Value) : Prop where
  row : w1.heap[w.heap.size]? = some (.cells (repV r v1 v2).toArray 37 (0, 0))
  res : w1.heap[w.heap.size + 1]? = some (.cells zeroRS.toArray 37 (0, 0))
  below : Below w.heap.size w w1
theorem twoReps_new (w : World) (r : RepV) (v1 v2 : Value) : TwoReps w ((w.alloc (.cells (repV r v1 v2).toArray 37)).alloc (.cells zeroRS.toArray 37)) r v1 v2 := by
  refine ⟨(Below.heap_alloc _ _ _ (by simp)).trans (World.alloc_heap_new _ _), ?_, ((Below.refl _ _).alloc (Nat.le_refl _) _).alloc (by simp) _⟩
  have := World.alloc_heap_new (w.alloc (.cells (repV r v1 v2).toArray 37)) (.cells zeroRS.toArray 37)
  rwa [World.size_alloc] at this
theorem TwoReps.later {w w1 w2 : World} {r : RepV} {v1 v2 : Value} (h : TwoReps w w1 r v1 v2) (hb : Below w1.heap.size w1 w2) : TwoReps w w2 r v1 v2 :=
  ⟨(hb.block _ (lt_of_block h.row)).trans h.row, (hb.block _ (lt_of_block h.res)).trans h.res, h.below.trans (hb.mono h.below.size)⟩
theorem TwoReps.set {w w1 : World} {r y : RepV} {v1 v2 u1 u2 u : Value} {j : Nat} (h : TwoReps w w1 r v1 v2) (he : (repV r v1 v2).set j u = repV y u1 u2) : TwoReps w (w1.setCell ⟨w.heap.size, j, none⟩ u) y u1 u2 := by
  refine ⟨?_, (Below.heap_setCell _ _ _ _ (by show w.heap.size + 1 ≠ w.heap.size; omega)).trans h.res, h.below.setCell (Nat.le_refl _) _⟩
  rw [heap_setCell_same w1 _ j _ 37 u h.row, List.setIfInBounds_toArray, he]
theorem TwoReps.dig {w w1 : World} {r : RepV} {v1 v2 : Value} {D : List UInt8} (h : TwoReps w w1 r v1 v2) (hd : r.d.length = 32) (hD : D.length = 32) : TwoReps w (w1.setCells w.heap.size 4 (digV D)) { r with d := D } v1 v2 := by
  have hg : w1.grownBy (w1.setCells w.heap.size 4 (digV D)) (some w.heap.size) := grown_setCells (g := w.heap.size) (digV D) 4 w1 ⟨rfl, rfl, rfl, Nat.le_refl _, fun _ _ _ => rfl⟩
  exact ⟨heap_digR h.row hd hD, (hg.block _ (lt_of_block h.res) (fun e => by injection e with e; omega)).trans h.res, h.below.grown hg h.below.size (by rintro _ ⟨⟩; exact Nat.le_refl _)⟩
/-- what part answers: its data as before, or new -/
def RepValA (A0 : Option Addr) (b0 : List UInt8) (n : Nat) (w : World) (v : Value) (y : RepV) : Prop := ∃ A c1 A2 c2, v = .agg (repS y A c1 A2 c2).toArray ∧ CellsIn w A (Lib.byteCells y.b) ∧ (A = A0 ∧ y.b = b0 ∨ ∀ a, A = some a → n ≤ a.block) ∧ StrsIn w (.slice A2 y.l.length c2) y.l ∧ y.l.length ≤ c2
def PartPost (r : RepV) (A0 : Option Addr) (k : Nat) (s : List UInt8) (w : World) (e : Ending) (w' : World) : Prop :=
  ∃ v y, e = .returned (.tuple #[v, .int .i64 (sayV r k s).2]) ∧ RepValA A0 r.b w.heap.size w' v y ∧ y.d.length = 32 ∧ ((sayV r k s).2 = 0 → y = (sayV r k s).1) ∧ Below w.heap.size w w'
theorem hexOk_len {l : List UInt8} (h : hexOk l = true) (hn : l ≠ []) : 2 ≤ l.length := by
  match l, h, hn with
  | [], _, hn => exact absurd rfl hn
  | [_], h, _ => exact absurd h (by simp [hexOk])
  | _ :: _ :: _, _, _ => simp
theorem repV_no_str (r : RepV) (v1 v2 : Value) (h1 : ∀ s, v1 ≠ .string s) (h2 : ∀ s, v2 ≠ .string s) : ∀ v ∈ repV r v1 v2, ∀ s, v ≠ .string s := by
  intro v hv s e
  subst e
  unfold repV at hv
  simp only [List.mem_cons, List.mem_append, List.not_mem_nil, or_false] at hv
  rcases hv with h | h | h | h | h | h | h
  all_goals first | (cases h; done) | (unfold digV at h; obtain ⟨c, _, hc⟩ := List.mem_map.1 h; cases hc) | exact h1 s h.symm | exact h2 s h.symm
set_option maxHeartbeats 4000000 in
set_option maxRecDepth 100000 in
theorem refPart_calls (r : RepV) (A : Option Addr) (c1 : Nat) (A2 : Option Addr) (c2 : Nat) (k : Nat) (s : ByteArray) (w : World) (hd : r.d.length = 32) (hA : CellsIn w A (Lib.byteCells r.b)) (hS : StrsIn w (.slice A2 r.l.length c2) r.l) (hcap : r.l.length ≤ c2) (hs : s.size ≤ 8388608) (hk : k ≤ 5) :
    Calls Tryz.prog 42 #[.agg (repS r A c1 A2 c2).toArray, .int .i64 k, .string s] w (PartPost r A k s.data.toList w) := by
  have hT := twoReps_new w r (.slice A r.b.length c1) (.slice A2 r.l.length c2)
  have hs' : (s.size : Int) ≤ 8388608 := by omega
  have hls : s.data.toList.length = s.size := by simp
  have HN := Lib.hid (fun W => refNumber_calls s W hs)
  have HG := Lib.hid (fun W => refDigRead_calls s W (by omega))
  have HSP := Lib.hid (fun W => refSplit_calls s W hs)
  have HLS := Lib.hid hls
  have HSZ := Lib.hid hs
  have HA := Lib.hid hA
  have HST := Lib.hid hS
  have HCAP := Lib.hid hcap
  have hkc : k = 0 ∨ k = 1 ∨ k = 2 ∨ k = 3 ∨ k = 4 ∨ k = 5 := by omega
  clear hs hls hA hk hS hcap
  rcases hkc with rfl | rfl | rfl | rfl | rfl | rfl
  · have hcv : countV s.data.toList = if (numV s.data.toList).2 = 0 ∧ (numV s.data.toList).1 = 0 then (0, 3) else numV s.data.toList := rfl
    have hsv : sayV r 0 s.data.toList = ({ r with i := (countV s.data.toList).1 }, (countV s.data.toList).2) := rfl
    obtain ⟨⟨n, e⟩, hnv⟩ : ∃ p, numV s.data.toList = p := ⟨_, rfl⟩
    rw [hnv] at hcv
    simp only [hnv] at HN hcv
    by_cases he : e = 0
    · by_cases hn : n = 0
      · have q1 : ((e : Int) == 0) = true := by rw [he]; rfl
        have q2 : ((n : Int) == 0) = true := by rw [hn]; rfl
        have HV : Hid (sayV r 0 s.data.toList = ({ r with i := 0 }, 3)) := by show _ = _; rw [hsv, hcv, if_pos ⟨he, hn⟩]
        clear he hn
        go_enter Tryz.func42, Tryz.ntmps42
        go_upto_region 1 with (fail)
        change Code.wp _ _ _ _ ((w.alloc (.cells (repS r A c1 A2 c2).toArray 37)).alloc (.cells zeroRS.toArray 37))
        generalize (w.alloc (.cells (repS r A c1 A2 c2).toArray 37)).alloc (.cells zeroRS.toArray 37) = w1 at *
        have cc1 : w1.cell? ⟨w.heap.size, 1, none⟩ = some (.int .i64 r.i) := (cell_of_row _ _ 1 _ _ _ hT.row).trans rfl
        have f1 := frozen_of_row _ _ 1 _ _ hT.row
        have HT := Lib.hid hT
        clear hT hcv hsv
        go_upto_region 26 with (first | (go_at_call 40; refine (HN.out _).mono ?_; rintro e w2 ⟨rfl, rfl⟩))
        have HT2 := Lib.hid (HT.out.set (j := 1) (u := .int .i64 n) (y := { r with i := n }) (u1 := .slice A r.b.length c1) (u2 := .slice A2 r.l.length c2) rfl)
        generalize w1.setCell ⟨w.heap.size, 1, none⟩ (.int .i64 n) = w3 at *
        clear cc1 f1
        have HL := Lib.hid (repV_length { r with i := n } (.slice A r.b.length c1) (.slice A2 r.l.length c2) hd)
        go_wp2_with (first | ((with_reducible apply wpList_load_repG w.heap.size (repV { r with i := n } (.slice A r.b.length c1) (.slice A2 r.l.length c2))); rfl; exact rangeAt_of_row HT2.out.row; exact HL.out; rfl) | ((with_reducible apply wpList_store_rep (w.heap.size + 1) (cs := (repV { r with i := n } (.slice A r.b.length c1) (.slice A2 r.l.length c2))) (c0 := zeroRS)); (case hy => rfl); (case hx => rfl); (case hf => exact HL.out); (case hf0 => exact zeroRS_length); (case h1 => exact repV_one _ _ _ rfl rfl); (case hg => exact HT2.out.res)))
        refine bodyPost_ret_by (results_rep rfl _ _ (w.heap.size + 1) (repV { r with i := n } (.slice A r.b.length c1) (.slice A2 r.l.length c2)) _ HL.out rfl (setRow_heap _ _ _ (repV { r with i := n } (.slice A r.b.length c1) (.slice A2 r.l.length c2)).toArray _ _ HT2.out.res) rfl) rfl ?_
        unfold PartPost
        rw [HV.out]
        exact ⟨_, { r with i := n }, rfl, ⟨A, c1, A2, c2, rfl, HA.out.below (below_setRow HT2.out.below (Nat.le_succ _) _), .inl ⟨rfl, rfl⟩, HST.out.below (below_setRow HT2.out.below (Nat.le_succ _) _), HCAP.out⟩, hd, fun h => absurd h (by show (3 : Int) ≠ 0; decide), below_setRow HT2.out.below (Nat.le_succ _) _⟩
      · have q1 : ((e : Int) == 0) = true := by rw [he]; rfl
        have q2 : ((n : Int) == 0) = false := by rw [beq_eq_false_iff_ne]; exact hn
        have HV : Hid (sayV r 0 s.data.toList = ({ r with i := n }, e)) := by show _ = _; rw [hsv, hcv, if_neg (fun h => hn h.2)]
        clear he hn
        go_enter Tryz.func42, Tryz.ntmps42
        go_upto_region 1 with (fail)
        change Code.wp _ _ _ _ ((w.alloc (.cells (repS r A c1 A2 c2).toArray 37)).alloc (.cells zeroRS.toArray 37))
        generalize (w.alloc (.cells (repS r A c1 A2 c2).toArray 37)).alloc (.cells zeroRS.toArray 37) = w1 at *
        have cc1 : w1.cell? ⟨w.heap.size, 1, none⟩ = some (.int .i64 r.i) := (cell_of_row _ _ 1 _ _ _ hT.row).trans rfl
        have f1 := frozen_of_row _ _ 1 _ _ hT.row
        have HT := Lib.hid hT
        clear hT hcv hsv
        go_upto_region 26 with (first | (go_at_call 40; refine (HN.out _).mono ?_; rintro e w2 ⟨rfl, rfl⟩))
        have HT2 := Lib.hid (HT.out.set (j := 1) (u := .int .i64 n) (y := { r with i := n }) (u1 := .slice A r.b.length c1) (u2 := .slice A2 r.l.length c2) rfl)
        generalize w1.setCell ⟨w.heap.size, 1, none⟩ (.int .i64 n) = w3 at *
        clear cc1 f1
        have HL := Lib.hid (repV_length { r with i := n } (.slice A r.b.length c1) (.slice A2 r.l.length c2) hd)
        go_wp2_with (first | ((with_reducible apply wpList_load_repG w.heap.size (repV { r with i := n } (.slice A r.b.length c1) (.slice A2 r.l.length c2))); rfl; exact rangeAt_of_row HT2.out.row; exact HL.out; rfl) | ((with_reducible apply wpList_store_rep (w.heap.size + 1) (cs := (repV { r with i := n } (.slice A r.b.length c1) (.slice A2 r.l.length c2))) (c0 := zeroRS)); (case hy => rfl); (case hx => rfl); (case hf => exact HL.out); (case hf0 => exact zeroRS_length); (case h1 => exact repV_one _ _ _ rfl rfl); (case hg => exact HT2.out.res)))
        refine bodyPost_ret_by (results_rep rfl _ _ (w.heap.size + 1) (repV { r with i := n } (.slice A r.b.length c1) (.slice A2 r.l.length c2)) _ HL.out rfl (setRow_heap _ _ _ (repV { r with i := n } (.slice A r.b.length c1) (.slice A2 r.l.length c2)).toArray _ _ HT2.out.res) rfl) rfl ?_
        unfold PartPost
        rw [HV.out]
        exact ⟨_, { r with i := n }, rfl, ⟨A, c1, A2, c2, rfl, HA.out.below (below_setRow HT2.out.below (Nat.le_succ _) _), .inl ⟨rfl, rfl⟩, HST.out.below (below_setRow HT2.out.below (Nat.le_succ _) _), HCAP.out⟩, hd, fun h => rfl, below_setRow HT2.out.below (Nat.le_succ _) _⟩
    · have q1 : ((e : Int) == 0) = false := by rw [beq_eq_false_iff_ne]; exact he
      have HV : Hid (sayV r 0 s.data.toList = ({ r with i := n }, e)) := by show _ = _; rw [hsv, hcv, if_neg (fun h => he h.1)]
      clear he
      go_enter Tryz.func42, Tryz.ntmps42
      go_upto_region 1 with (fail)
      change Code.wp _ _ _ _ ((w.alloc (.cells (repS r A c1 A2 c2).toArray 37)).alloc (.cells zeroRS.toArray 37))
      generalize (w.alloc (.cells (repS r A c1 A2 c2).toArray 37)).alloc (.cells zeroRS.toArray 37) = w1 at *
      have cc1 : w1.cell? ⟨w.heap.size, 1, none⟩ = some (.int .i64 r.i) := (cell_of_row _ _ 1 _ _ _ hT.row).trans rfl
      have f1 := frozen_of_row _ _ 1 _ _ hT.row
      have HT := Lib.hid hT
      clear hT hcv hsv
      go_upto_region 26 with (first | (go_at_call 40; refine (HN.out _).mono ?_; rintro e w2 ⟨rfl, rfl⟩))
      have HT2 := Lib.hid (HT.out.set (j := 1) (u := .int .i64 n) (y := { r with i := n }) (u1 := .slice A r.b.length c1) (u2 := .slice A2 r.l.length c2) rfl)
      generalize w1.setCell ⟨w.heap.size, 1, none⟩ (.int .i64 n) = w3 at *
      clear cc1 f1
      have HL := Lib.hid (repV_length { r with i := n } (.slice A r.b.length c1) (.slice A2 r.l.length c2) hd)
      go_wp2_with (first | ((with_reducible apply wpList_load_repG w.heap.size (repV { r with i := n } (.slice A r.b.length c1) (.slice A2 r.l.length c2))); rfl; exact rangeAt_of_row HT2.out.row; exact HL.out; rfl) | ((with_reducible apply wpList_store_rep (w.heap.size + 1) (cs := (repV { r with i := n } (.slice A r.b.length c1) (.slice A2 r.l.length c2))) (c0 := zeroRS)); (case hy => rfl); (case hx => rfl); (case hf => exact HL.out); (case hf0 => exact zeroRS_length); (case h1 => exact repV_one _ _ _ rfl rfl); (case hg => exact HT2.out.res)))
      refine bodyPost_ret_by (results_rep rfl _ _ (w.heap.size + 1) (repV { r with i := n } (.slice A r.b.length c1) (.slice A2 r.l.length c2)) _ HL.out rfl (setRow_heap _ _ _ (repV { r with i := n } (.slice A r.b.length c1) (.slice A2 r.l.length c2)).toArray _ _ HT2.out.res) rfl) rfl ?_
      unfold PartPost
      rw [HV.out]
      exact ⟨_, { r with i := n }, rfl, ⟨A, c1, A2, c2, rfl, HA.out.below (below_setRow HT2.out.below (Nat.le_succ _) _), .inl ⟨rfl, rfl⟩, HST.out.below (below_setRow HT2.out.below (Nat.le_succ _) _), HCAP.out⟩, hd, fun h => rfl, below_setRow HT2.out.below (Nat.le_succ _) _⟩
  · have hcv : countV s.data.toList = if (numV s.data.toList).2 = 0 ∧ (numV s.data.toList).1 = 0 then (0, 3) else numV s.data.toList := rfl
    have hsv : sayV r 1 s.data.toList = ({ r with k := (countV s.data.toList).1 }, (countV s.data.toList).2) := rfl
    obtain ⟨⟨n, e⟩, hnv⟩ : ∃ p, numV s.data.toList = p := ⟨_, rfl⟩
    rw [hnv] at hcv
    simp only [hnv] at HN hcv
    by_cases he : e = 0
    · by_cases hn : n = 0
      · have q1 : ((e : Int) == 0) = true := by rw [he]; rfl
        have q2 : ((n : Int) == 0) = true := by rw [hn]; rfl
        have HV : Hid (sayV r 1 s.data.toList = ({ r with k := 0 }, 3)) := by show _ = _; rw [hsv, hcv, if_pos ⟨he, hn⟩]
        clear he hn
        go_enter Tryz.func42, Tryz.ntmps42
        go_upto_region 1 with (fail)
        change Code.wp _ _ _ _ ((w.alloc (.cells (repS r A c1 A2 c2).toArray 37)).alloc (.cells zeroRS.toArray 37))
        generalize (w.alloc (.cells (repS r A c1 A2 c2).toArray 37)).alloc (.cells zeroRS.toArray 37) = w1 at *
        have cc1 : w1.cell? ⟨w.heap.size, 2, none⟩ = some (.int .i64 r.k) := (cell_of_row _ _ 2 _ _ _ hT.row).trans rfl
        have f1 := frozen_of_row _ _ 2 _ _ hT.row
        have HT := Lib.hid hT
        clear hT hcv hsv
        go_upto_region 26 with (first | (go_at_call 40; refine (HN.out _).mono ?_; rintro e w2 ⟨rfl, rfl⟩))
        have HT2 := Lib.hid (HT.out.set (j := 2) (u := .int .i64 n) (y := { r with k := n }) (u1 := .slice A r.b.length c1) (u2 := .slice A2 r.l.length c2) rfl)
        generalize w1.setCell ⟨w.heap.size, 2, none⟩ (.int .i64 n) = w3 at *
        clear cc1 f1
        have HL := Lib.hid (repV_length { r with k := n } (.slice A r.b.length c1) (.slice A2 r.l.length c2) hd)
        go_wp2_with (first | ((with_reducible apply wpList_load_repG w.heap.size (repV { r with k := n } (.slice A r.b.length c1) (.slice A2 r.l.length c2))); rfl; exact rangeAt_of_row HT2.out.row; exact HL.out; rfl) | ((with_reducible apply wpList_store_rep (w.heap.size + 1) (cs := (repV { r with k := n } (.slice A r.b.length c1) (.slice A2 r.l.length c2))) (c0 := zeroRS)); (case hy => rfl); (case hx => rfl); (case hf => exact HL.out); (case hf0 => exact zeroRS_length); (case h1 => exact repV_one _ _ _ rfl rfl); (case hg => exact HT2.out.res)))
        refine bodyPost_ret_by (results_rep rfl _ _ (w.heap.size + 1) (repV { r with k := n } (.slice A r.b.length c1) (.slice A2 r.l.length c2)) _ HL.out rfl (setRow_heap _ _ _ (repV { r with k := n } (.slice A r.b.length c1) (.slice A2 r.l.length c2)).toArray _ _ HT2.out.res) rfl) rfl ?_
        unfold PartPost
        rw [HV.out]
        exact ⟨_, { r with k := n }, rfl, ⟨A, c1, A2, c2, rfl, HA.out.below (below_setRow HT2.out.below (Nat.le_succ _) _), .inl ⟨rfl, rfl⟩, HST.out.below (below_setRow HT2.out.below (Nat.le_succ _) _), HCAP.out⟩, hd, fun h => absurd h (by show (3 : Int) ≠ 0; decide), below_setRow HT2.out.below (Nat.le_succ _) _⟩
      · have q1 : ((e : Int) == 0) = true := by rw [he]; rfl
        have q2 : ((n : Int) == 0) = false := by rw [beq_eq_false_iff_ne]; exact hn
        have HV : Hid (sayV r 1 s.data.toList = ({ r with k := n }, e)) := by show _ = _; rw [hsv, hcv, if_neg (fun h => hn h.2)]
        clear he hn
        go_enter Tryz.func42, Tryz.ntmps42
        go_upto_region 1 with (fail)
        change Code.wp _ _ _ _ ((w.alloc (.cells (repS r A c1 A2 c2).toArray 37)).alloc (.cells zeroRS.toArray 37))
        generalize (w.alloc (.cells (repS r A c1 A2 c2).toArray 37)).alloc (.cells zeroRS.toArray 37) = w1 at *
        have cc1 : w1.cell? ⟨w.heap.size, 2, none⟩ = some (.int .i64 r.k) := (cell_of_row _ _ 2 _ _ _ hT.row).trans rfl
        have f1 := frozen_of_row _ _ 2 _ _ hT.row
        have HT := Lib.hid hT
        clear hT hcv hsv
        go_upto_region 26 with (first | (go_at_call 40; refine (HN.out _).mono ?_; rintro e w2 ⟨rfl, rfl⟩))
        have HT2 := Lib.hid (HT.out.set (j := 2) (u := .int .i64 n) (y := { r with k := n }) (u1 := .slice A r.b.length c1) (u2 := .slice A2 r.l.length c2) rfl)
        generalize w1.setCell ⟨w.heap.size, 2, none⟩ (.int .i64 n) = w3 at *
        clear cc1 f1
        have HL := Lib.hid (repV_length { r with k := n } (.slice A r.b.length c1) (.slice A2 r.l.length c2) hd)
        go_wp2_with (first | ((with_reducible apply wpList_load_repG w.heap.size (repV { r with k := n } (.slice A r.b.length c1) (.slice A2 r.l.length c2))); rfl; exact rangeAt_of_row HT2.out.row; exact HL.out; rfl) | ((with_reducible apply wpList_store_rep (w.heap.size + 1) (cs := (repV { r with k := n } (.slice A r.b.length c1) (.slice A2 r.l.length c2))) (c0 := zeroRS)); (case hy => rfl); (case hx => rfl); (case hf => exact HL.out); (case hf0 => exact zeroRS_length); (case h1 => exact repV_one _ _ _ rfl rfl); (case hg => exact HT2.out.res)))
        refine bodyPost_ret_by (results_rep rfl _ _ (w.heap.size + 1) (repV { r with k := n } (.slice A r.b.length c1) (.slice A2 r.l.length c2)) _ HL.out rfl (setRow_heap _ _ _ (repV { r with k := n } (.slice A r.b.length c1) (.slice A2 r.l.length c2)).toArray _ _ HT2.out.res) rfl) rfl ?_
        unfold PartPost
        rw [HV.out]
        exact ⟨_, { r with k := n }, rfl, ⟨A, c1, A2, c2, rfl, HA.out.below (below_setRow HT2.out.below (Nat.le_succ _) _), .inl ⟨rfl, rfl⟩, HST.out.below (below_setRow HT2.out.below (Nat.le_succ _) _), HCAP.out⟩, hd, fun h => rfl, below_setRow HT2.out.below (Nat.le_succ _) _⟩
    · have q1 : ((e : Int) == 0) = false := by rw [beq_eq_false_iff_ne]; exact he
      have HV : Hid (sayV r 1 s.data.toList = ({ r with k := n }, e)) := by show _ = _; rw [hsv, hcv, if_neg (fun h => he h.1)]
      clear he
      go_enter Tryz.func42, Tryz.ntmps42
      go_upto_region 1 with (fail)
      change Code.wp _ _ _ _ ((w.alloc (.cells (repS r A c1 A2 c2).toArray 37)).alloc (.cells zeroRS.toArray 37))
      generalize (w.alloc (.cells (repS r A c1 A2 c2).toArray 37)).alloc (.cells zeroRS.toArray 37) = w1 at *
      have cc1 : w1.cell? ⟨w.heap.size, 2, none⟩ = some (.int .i64 r.k) := (cell_of_row _ _ 2 _ _ _ hT.row).trans rfl
      have f1 := frozen_of_row _ _ 2 _ _ hT.row
      have HT := Lib.hid hT
      clear hT hcv hsv
      go_upto_region 26 with (first | (go_at_call 40; refine (HN.out _).mono ?_; rintro e w2 ⟨rfl, rfl⟩))
      have HT2 := Lib.hid (HT.out.set (j := 2) (u := .int .i64 n) (y := { r with k := n }) (u1 := .slice A r.b.length c1) (u2 := .slice A2 r.l.length c2) rfl)
      generalize w1.setCell ⟨w.heap.size, 2, none⟩ (.int .i64 n) = w3 at *
      clear cc1 f1
      have HL := Lib.hid (repV_length { r with k := n } (.slice A r.b.length c1) (.slice A2 r.l.length c2) hd)
      go_wp2_with (first | ((with_reducible apply wpList_load_repG w.heap.size (repV { r with k := n } (.slice A r.b.length c1) (.slice A2 r.l.length c2))); rfl; exact rangeAt_of_row HT2.out.row; exact HL.out; rfl) | ((with_reducible apply wpList_store_rep (w.heap.size + 1) (cs := (repV { r with k := n } (.slice A r.b.length c1) (.slice A2 r.l.length c2))) (c0 := zeroRS)); (case hy => rfl); (case hx => rfl); (case hf => exact HL.out); (case hf0 => exact zeroRS_length); (case h1 => exact repV_one _ _ _ rfl rfl); (case hg => exact HT2.out.res)))
      refine bodyPost_ret_by (results_rep rfl _ _ (w.heap.size + 1) (repV { r with k := n } (.slice A r.b.length c1) (.slice A2 r.l.length c2)) _ HL.out rfl (setRow_heap _ _ _ (repV { r with k := n } (.slice A r.b.length c1) (.slice A2 r.l.length c2)).toArray _ _ HT2.out.res) rfl) rfl ?_
      unfold PartPost
      rw [HV.out]
      exact ⟨_, { r with k := n }, rfl, ⟨A, c1, A2, c2, rfl, HA.out.below (below_setRow HT2.out.below (Nat.le_succ _) _), .inl ⟨rfl, rfl⟩, HST.out.below (below_setRow HT2.out.below (Nat.le_succ _) _), HCAP.out⟩, hd, fun h => rfl, below_setRow HT2.out.below (Nat.le_succ _) _⟩
  · have hcv : countV s.data.toList = if (numV s.data.toList).2 = 0 ∧ (numV s.data.toList).1 = 0 then (0, 3) else numV s.data.toList := rfl
    have hsv : sayV r 2 s.data.toList = ({ r with n := (countV s.data.toList).1 }, (countV s.data.toList).2) := rfl
    obtain ⟨⟨n, e⟩, hnv⟩ : ∃ p, numV s.data.toList = p := ⟨_, rfl⟩
    rw [hnv] at hcv
    simp only [hnv] at HN hcv
    by_cases he : e = 0
    · by_cases hn : n = 0
      · have q1 : ((e : Int) == 0) = true := by rw [he]; rfl
        have q2 : ((n : Int) == 0) = true := by rw [hn]; rfl
        have HV : Hid (sayV r 2 s.data.toList = ({ r with n := 0 }, 3)) := by show _ = _; rw [hsv, hcv, if_pos ⟨he, hn⟩]
        clear he hn
        go_enter Tryz.func42, Tryz.ntmps42
        go_upto_region 1 with (fail)
        change Code.wp _ _ _ _ ((w.alloc (.cells (repS r A c1 A2 c2).toArray 37)).alloc (.cells zeroRS.toArray 37))
        generalize (w.alloc (.cells (repS r A c1 A2 c2).toArray 37)).alloc (.cells zeroRS.toArray 37) = w1 at *
        have cc1 : w1.cell? ⟨w.heap.size, 3, none⟩ = some (.int .i64 r.n) := (cell_of_row _ _ 3 _ _ _ hT.row).trans rfl
        have f1 := frozen_of_row _ _ 3 _ _ hT.row
        have HT := Lib.hid hT
        clear hT hcv hsv
        go_upto_region 26 with (first | (go_at_call 40; refine (HN.out _).mono ?_; rintro e w2 ⟨rfl, rfl⟩))
        have HT2 := Lib.hid (HT.out.set (j := 3) (u := .int .i64 n) (y := { r with n := n }) (u1 := .slice A r.b.length c1) (u2 := .slice A2 r.l.length c2) rfl)
        generalize w1.setCell ⟨w.heap.size, 3, none⟩ (.int .i64 n) = w3 at *
        clear cc1 f1
        have HL := Lib.hid (repV_length { r with n := n } (.slice A r.b.length c1) (.slice A2 r.l.length c2) hd)
        go_wp2_with (first | ((with_reducible apply wpList_load_repG w.heap.size (repV { r with n := n } (.slice A r.b.length c1) (.slice A2 r.l.length c2))); rfl; exact rangeAt_of_row HT2.out.row; exact HL.out; rfl) | ((with_reducible apply wpList_store_rep (w.heap.size + 1) (cs := (repV { r with n := n } (.slice A r.b.length c1) (.slice A2 r.l.length c2))) (c0 := zeroRS)); (case hy => rfl); (case hx => rfl); (case hf => exact HL.out); (case hf0 => exact zeroRS_length); (case h1 => exact repV_one _ _ _ rfl rfl); (case hg => exact HT2.out.res)))
        refine bodyPost_ret_by (results_rep rfl _ _ (w.heap.size + 1) (repV { r with n := n } (.slice A r.b.length c1) (.slice A2 r.l.length c2)) _ HL.out rfl (setRow_heap _ _ _ (repV { r with n := n } (.slice A r.b.length c1) (.slice A2 r.l.length c2)).toArray _ _ HT2.out.res) rfl) rfl ?_
        unfold PartPost
        rw [HV.out]
        exact ⟨_, { r with n := n }, rfl, ⟨A, c1, A2, c2, rfl, HA.out.below (below_setRow HT2.out.below (Nat.le_succ _) _), .inl ⟨rfl, rfl⟩, HST.out.below (below_setRow HT2.out.below (Nat.le_succ _) _), HCAP.out⟩, hd, fun h => absurd h (by show (3 : Int) ≠ 0; decide), below_setRow HT2.out.below (Nat.le_succ _) _⟩
      · have q1 : ((e : Int) == 0) = true := by rw [he]; rfl
        have q2 : ((n : Int) == 0) = false := by rw [beq_eq_false_iff_ne]; exact hn
        have HV : Hid (sayV r 2 s.data.toList = ({ r with n := n }, e)) := by show _ = _; rw [hsv, hcv, if_neg (fun h => hn h.2)]
        clear he hn
        go_enter Tryz.func42, Tryz.ntmps42
        go_upto_region 1 with (fail)
        change Code.wp _ _ _ _ ((w.alloc (.cells (repS r A c1 A2 c2).toArray 37)).alloc (.cells zeroRS.toArray 37))
        generalize (w.alloc (.cells (repS r A c1 A2 c2).toArray 37)).alloc (.cells zeroRS.toArray 37) = w1 at *
        have cc1 : w1.cell? ⟨w.heap.size, 3, none⟩ = some (.int .i64 r.n) := (cell_of_row _ _ 3 _ _ _ hT.row).trans rfl
        have f1 := frozen_of_row _ _ 3 _ _ hT.row
        have HT := Lib.hid hT
        clear hT hcv hsv
        go_upto_region 26 with (first | (go_at_call 40; refine (HN.out _).mono ?_; rintro e w2 ⟨rfl, rfl⟩))
        have HT2 := Lib.hid (HT.out.set (j := 3) (u := .int .i64 n) (y := { r with n := n }) (u1 := .slice A r.b.length c1) (u2 := .slice A2 r.l.length c2) rfl)
        generalize w1.setCell ⟨w.heap.size, 3, none⟩ (.int .i64 n) = w3 at *
        clear cc1 f1
        have HL := Lib.hid (repV_length { r with n := n } (.slice A r.b.length c1) (.slice A2 r.l.length c2) hd)
        go_wp2_with (first | ((with_reducible apply wpList_load_repG w.heap.size (repV { r with n := n } (.slice A r.b.length c1) (.slice A2 r.l.length c2))); rfl; exact rangeAt_of_row HT2.out.row; exact HL.out; rfl) | ((with_reducible apply wpList_store_rep (w.heap.size + 1) (cs := (repV { r with n := n } (.slice A r.b.length c1) (.slice A2 r.l.length c2))) (c0 := zeroRS)); (case hy => rfl); (case hx => rfl); (case hf => exact HL.out); (case hf0 => exact zeroRS_length); (case h1 => exact repV_one _ _ _ rfl rfl); (case hg => exact HT2.out.res)))
        refine bodyPost_ret_by (results_rep rfl _ _ (w.heap.size + 1) (repV { r with n := n } (.slice A r.b.length c1) (.slice A2 r.l.length c2)) _ HL.out rfl (setRow_heap _ _ _ (repV { r with n := n } (.slice A r.b.length c1) (.slice A2 r.l.length c2)).toArray _ _ HT2.out.res) rfl) rfl ?_
        unfold PartPost
        rw [HV.out]
        exact ⟨_, { r with n := n }, rfl, ⟨A, c1, A2, c2, rfl, HA.out.below (below_setRow HT2.out.below (Nat.le_succ _) _), .inl ⟨rfl, rfl⟩, HST.out.below (below_setRow HT2.out.below (Nat.le_succ _) _), HCAP.out⟩, hd, fun h => rfl, below_setRow HT2.out.below (Nat.le_succ _) _⟩
    · have q1 : ((e : Int) == 0) = false := by rw [beq_eq_false_iff_ne]; exact he
      have HV : Hid (sayV r 2 s.data.toList = ({ r with n := n }, e)) := by show _ = _; rw [hsv, hcv, if_neg (fun h => he h.1)]
      clear he
      go_enter Tryz.func42, Tryz.ntmps42
      go_upto_region 1 with (fail)
      change Code.wp _ _ _ _ ((w.alloc (.cells (repS r A c1 A2 c2).toArray 37)).alloc (.cells zeroRS.toArray 37))
      generalize (w.alloc (.cells (repS r A c1 A2 c2).toArray 37)).alloc (.cells zeroRS.toArray 37) = w1 at *
      have cc1 : w1.cell? ⟨w.heap.size, 3, none⟩ = some (.int .i64 r.n) := (cell_of_row _ _ 3 _ _ _ hT.row).trans rfl
      have f1 := frozen_of_row _ _ 3 _ _ hT.row
      have HT := Lib.hid hT
      clear hT hcv hsv
      go_upto_region 26 with (first | (go_at_call 40; refine (HN.out _).mono ?_; rintro e w2 ⟨rfl, rfl⟩))
      have HT2 := Lib.hid (HT.out.set (j := 3) (u := .int .i64 n) (y := { r with n := n }) (u1 := .slice A r.b.length c1) (u2 := .slice A2 r.l.length c2) rfl)
      generalize w1.setCell ⟨w.heap.size, 3, none⟩ (.int .i64 n) = w3 at *
      clear cc1 f1
      have HL := Lib.hid (repV_length { r with n := n } (.slice A r.b.length c1) (.slice A2 r.l.length c2) hd)
      go_wp2_with (first | ((with_reducible apply wpList_load_repG w.heap.size (repV { r with n := n } (.slice A r.b.length c1) (.slice A2 r.l.length c2))); rfl; exact rangeAt_of_row HT2.out.row; exact HL.out; rfl) | ((with_reducible apply wpList_store_rep (w.heap.size + 1) (cs := (repV { r with n := n } (.slice A r.b.length c1) (.slice A2 r.l.length c2))) (c0 := zeroRS)); (case hy => rfl); (case hx => rfl); (case hf => exact HL.out); (case hf0 => exact zeroRS_length); (case h1 => exact repV_one _ _ _ rfl rfl); (case hg => exact HT2.out.res)))
      refine bodyPost_ret_by (results_rep rfl _ _ (w.heap.size + 1) (repV { r with n := n } (.slice A r.b.length c1) (.slice A2 r.l.length c2)) _ HL.out rfl (setRow_heap _ _ _ (repV { r with n := n } (.slice A r.b.length c1) (.slice A2 r.l.length c2)).toArray _ _ HT2.out.res) rfl) rfl ?_
      unfold PartPost
      rw [HV.out]
      exact ⟨_, { r with n := n }, rfl, ⟨A, c1, A2, c2, rfl, HA.out.below (below_setRow HT2.out.below (Nat.le_succ _) _), .inl ⟨rfl, rfl⟩, HST.out.below (below_setRow HT2.out.below (Nat.le_succ _) _), HCAP.out⟩, hd, fun h => rfl, below_setRow HT2.out.below (Nat.le_succ _) _⟩
  · have hsy : Hid (sayV r 3 s.data.toList = if digOk s.data.toList = true ∧ digD s.data.toList ≠ zeroD then ({ r with d := digD s.data.toList }, 0) else (r, 3)) := rfl
    have hbad : Hid (¬ digOk s.data.toList = true → digD s.data.toList = zeroD) := fun h => digD_bad h
    have hdl := digD_length s.data.toList
    unfold DigPost at HG
    generalize digD s.data.toList = D at *
    have HDL := Lib.hid hdl
    have HSZ2 : Hid ((Tryz.prog.info? 23).map (·.size) = some (digV D).toArray.size) := by show _ = _; rw [size23]; simp [digV_length, hdl]
    have H1 := Lib.hid (digV_one D)
    have hzl := zeroD_length
    by_cases hz : D = zeroD
    · have HQ : Hid ((D == zeroD) = true) := by show _ = _; rw [hz]; simp
      have HV : Hid ((sayV r 3 s.data.toList).2 = 3) := by show _ = _; rw [hsy.out, if_neg (fun h => h.2 hz)]
      clear hz
      generalize hE : (if digOk s.data.toList then (0 : Int) else 3) = E at *
      clear hE
      go_enter Tryz.func42, Tryz.ntmps42
      go_upto_region 1 with (fail)
      change Code.wp _ _ _ _ ((w.alloc (.cells (repS r A c1 A2 c2).toArray 37)).alloc (.cells zeroRS.toArray 37))
      generalize (w.alloc (.cells (repS r A c1 A2 c2).toArray 37)).alloc (.cells zeroRS.toArray 37) = w1 at *
      have HT := Lib.hid hT
      clear hT
      go_upto_region 19 with (first | (go_at_call 49; refine (HG.out _).mono ?_; rintro e w2 ⟨rfl, hb2⟩; have HTB := Lib.hid (HT.out.later hb2); have HTH := Lib.hid (there_digR (D := D) HTB.out.row hd HDL.out); clear hb2) | (refine wpList_store_mid rfl 23 _ _ rfl w.heap.size 4 (digV D).toArray rfl rfl HTH.out HSZ2.out H1.out ?_))
      have HT3 : Hid (TwoReps w (w2.setCells w.heap.size 4 (digV D)) { r with d := D } (.slice A r.b.length c1) (.slice A2 r.l.length c2)) := HTB.out.dig hd HDL.out
      change Code.wp _ _ _ _ (w2.setCells w.heap.size 4 (digV D))
      generalize w2.setCells w.heap.size 4 (digV D) = w3 at *
      have HB3Z : Hid (Below w3.heap.size w3 ((w3.alloc (.cells (digV zeroD).toArray 23)).setRow w3.heap.size (digV zeroD).toArray)) := below_setRow ((Below.refl _ _).alloc (Nat.le_refl _) _) (Nat.le_refl _) _
      have HT2 := Lib.hid (HT3.out.later HB3Z.out)
      have HD3 := Lib.hid (repAt_of (rangeAt_of_row HT2.out.row) HDL.out).d
      go_upto_if 60 with (first | (with_reducible refine wpList_alloc_dig ?_) | (with_reducible refine wpList_build_dig ?_) | ((with_reducible apply wpList_store_dig w3.heap.size zeroD zeroD zeroD_length zeroD_length); rfl; rfl; exact World.alloc_heap_new _ _) | ((with_reducible apply wpList_load_dig w.heap.size 4 D); rfl; exact HD3.out; exact HDL.out) | ((with_reducible apply wpList_load_dig w3.heap.size 0 zeroD); rfl; exact rangeAt_of_row (setRow_heap _ _ _ _ _ _ (World.alloc_heap_new _ _)); exact zeroD_length))
      rw [HQ.out]
      generalize (w3.alloc (.cells (digV zeroD).toArray 23)).setRow w3.heap.size (digV zeroD).toArray = w4 at *
      have HL := Lib.hid (repV_length { r with d := D } (.slice A r.b.length c1) (.slice A2 r.l.length c2) HDL.out)
      go_wp2_with (first | ((with_reducible apply wpList_load_repG w.heap.size (repV { r with d := D } (.slice A r.b.length c1) (.slice A2 r.l.length c2))); rfl; exact rangeAt_of_row HT2.out.row; exact HL.out; rfl) | ((with_reducible apply wpList_store_rep (w.heap.size + 1) (cs := (repV { r with d := D } (.slice A r.b.length c1) (.slice A2 r.l.length c2))) (c0 := zeroRS)); (case hy => rfl); (case hx => rfl); (case hf => exact HL.out); (case hf0 => exact zeroRS_length); (case h1 => exact repV_one _ _ _ rfl rfl); (case hg => exact HT2.out.res)))
      refine bodyPost_ret_by (results_rep rfl _ _ (w.heap.size + 1) (repV { r with d := D } (.slice A r.b.length c1) (.slice A2 r.l.length c2)) _ HL.out rfl (setRow_heap _ _ _ (repV { r with d := D } (.slice A r.b.length c1) (.slice A2 r.l.length c2)).toArray _ _ HT2.out.res) rfl) rfl ?_
      unfold PartPost
      rw [HV.out]
      exact ⟨_, { r with d := D }, rfl, ⟨A, c1, A2, c2, rfl, HA.out.below (below_setRow HT2.out.below (Nat.le_succ _) _), .inl ⟨rfl, rfl⟩, HST.out.below (below_setRow HT2.out.below (Nat.le_succ _) _), HCAP.out⟩, HDL.out, fun h => absurd h (by decide), below_setRow HT2.out.below (Nat.le_succ _) _⟩
    · have HQ : Hid ((D == zeroD) = false) := by show _ = _; rw [beq_eq_false_iff_ne]; exact hz
      have hok : digOk s.data.toList = true := Classical.byContradiction fun h => hz (hbad.out h)
      have HV : Hid (sayV r 3 s.data.toList = ({ r with d := D }, 0)) := by show _ = _; rw [hsy.out, if_pos ⟨hok, hz⟩]
      rw [if_pos hok] at HG
      clear hz hok
      go_enter Tryz.func42, Tryz.ntmps42
      go_upto_region 1 with (fail)
      change Code.wp _ _ _ _ ((w.alloc (.cells (repS r A c1 A2 c2).toArray 37)).alloc (.cells zeroRS.toArray 37))
      generalize (w.alloc (.cells (repS r A c1 A2 c2).toArray 37)).alloc (.cells zeroRS.toArray 37) = w1 at *
      have HT := Lib.hid hT
      clear hT
      go_upto_region 19 with (first | (go_at_call 49; refine (HG.out _).mono ?_; rintro e w2 ⟨rfl, hb2⟩; have HTB := Lib.hid (HT.out.later hb2); have HTH := Lib.hid (there_digR (D := D) HTB.out.row hd HDL.out); clear hb2) | (refine wpList_store_mid rfl 23 _ _ rfl w.heap.size 4 (digV D).toArray rfl rfl HTH.out HSZ2.out H1.out ?_))
      have HT3 : Hid (TwoReps w (w2.setCells w.heap.size 4 (digV D)) { r with d := D } (.slice A r.b.length c1) (.slice A2 r.l.length c2)) := HTB.out.dig hd HDL.out
      change Code.wp _ _ _ _ (w2.setCells w.heap.size 4 (digV D))
      generalize w2.setCells w.heap.size 4 (digV D) = w3 at *
      have HB3Z : Hid (Below w3.heap.size w3 ((w3.alloc (.cells (digV zeroD).toArray 23)).setRow w3.heap.size (digV zeroD).toArray)) := below_setRow ((Below.refl _ _).alloc (Nat.le_refl _) _) (Nat.le_refl _) _
      have HT2 := Lib.hid (HT3.out.later HB3Z.out)
      have HD3 := Lib.hid (repAt_of (rangeAt_of_row HT2.out.row) HDL.out).d
      go_upto_if 60 with (first | (with_reducible refine wpList_alloc_dig ?_) | (with_reducible refine wpList_build_dig ?_) | ((with_reducible apply wpList_store_dig w3.heap.size zeroD zeroD zeroD_length zeroD_length); rfl; rfl; exact World.alloc_heap_new _ _) | ((with_reducible apply wpList_load_dig w.heap.size 4 D); rfl; exact HD3.out; exact HDL.out) | ((with_reducible apply wpList_load_dig w3.heap.size 0 zeroD); rfl; exact rangeAt_of_row (setRow_heap _ _ _ _ _ _ (World.alloc_heap_new _ _)); exact zeroD_length))
      rw [HQ.out]
      generalize (w3.alloc (.cells (digV zeroD).toArray 23)).setRow w3.heap.size (digV zeroD).toArray = w4 at *
      have HL := Lib.hid (repV_length { r with d := D } (.slice A r.b.length c1) (.slice A2 r.l.length c2) HDL.out)
      go_wp2_with (first | ((with_reducible apply wpList_load_repG w.heap.size (repV { r with d := D } (.slice A r.b.length c1) (.slice A2 r.l.length c2))); rfl; exact rangeAt_of_row HT2.out.row; exact HL.out; rfl) | ((with_reducible apply wpList_store_rep (w.heap.size + 1) (cs := (repV { r with d := D } (.slice A r.b.length c1) (.slice A2 r.l.length c2))) (c0 := zeroRS)); (case hy => rfl); (case hx => rfl); (case hf => exact HL.out); (case hf0 => exact zeroRS_length); (case h1 => exact repV_one _ _ _ rfl rfl); (case hg => exact HT2.out.res)))
      refine bodyPost_ret_by (results_rep rfl _ _ (w.heap.size + 1) (repV { r with d := D } (.slice A r.b.length c1) (.slice A2 r.l.length c2)) _ HL.out rfl (setRow_heap _ _ _ (repV { r with d := D } (.slice A r.b.length c1) (.slice A2 r.l.length c2)).toArray _ _ HT2.out.res) rfl) rfl ?_
      unfold PartPost
      rw [HV.out]
      exact ⟨_, { r with d := D }, rfl, ⟨A, c1, A2, c2, rfl, HA.out.below (below_setRow HT2.out.below (Nat.le_succ _) _), .inl ⟨rfl, rfl⟩, HST.out.below (below_setRow HT2.out.below (Nat.le_succ _) _), HCAP.out⟩, HDL.out, fun _ => rfl, below_setRow HT2.out.below (Nat.le_succ _) _⟩
  · have hsy : Hid (sayV r 4 s.data.toList = if s.data.toList.head? = some 120 ∧ hexOk s.data.toList.tail = true ∧ s.data.toList.tail ≠ [] then ({ r with b := hexP s.data.toList.tail }, 0) else (r, 3)) := rfl
    have hext : (s.extract 1 s.size).data.toList = s.data.toList.tail := by rw [Lib.extract_data, List.take_of_length_le (by rw [List.length_drop, HLS.out]; omega), List.drop_one]
    have HEXT := Lib.hid hext
    clear hext
    by_cases h3 : (s.size : Int) < 3
    · have HV : Hid ((sayV r 4 s.data.toList).2 = 3) := by
        show _ = _
        rw [hsy.out, if_neg]
        rintro ⟨g1, g2, g3⟩
        have hl := hexOk_len g2 g3
        rw [List.length_tail, HLS.out] at hl
        omega
      go_enter Tryz.func42, Tryz.ntmps42
      go_upto_region 1 with (fail)
      change Code.wp _ _ _ _ ((w.alloc (.cells (repS r A c1 A2 c2).toArray 37)).alloc (.cells zeroRS.toArray 37))
      generalize (w.alloc (.cells (repS r A c1 A2 c2).toArray 37)).alloc (.cells zeroRS.toArray 37) = w1 at *
      have HT2 := Lib.hid hT
      clear hT
      have HL := Lib.hid (repV_length r (.slice A r.b.length c1) (.slice A2 r.l.length c2) hd)
      go_wp2_with (first | ((with_reducible apply wpList_load_repG w.heap.size (repV r (.slice A r.b.length c1) (.slice A2 r.l.length c2))); rfl; exact rangeAt_of_row HT2.out.row; exact HL.out; rfl) | ((with_reducible apply wpList_store_rep (w.heap.size + 1) (cs := (repV r (.slice A r.b.length c1) (.slice A2 r.l.length c2))) (c0 := zeroRS)); (case hy => rfl); (case hx => rfl); (case hf => exact HL.out); (case hf0 => exact zeroRS_length); (case h1 => exact repV_one _ _ _ rfl rfl); (case hg => exact HT2.out.res)))
      refine bodyPost_ret_by (results_rep rfl _ _ (w.heap.size + 1) (repV r (.slice A r.b.length c1) (.slice A2 r.l.length c2)) _ HL.out rfl (setRow_heap _ _ _ (repV r (.slice A r.b.length c1) (.slice A2 r.l.length c2)).toArray _ _ HT2.out.res) rfl) rfl ?_
      unfold PartPost
      rw [HV.out]
      exact ⟨_, r, rfl, ⟨A, c1, A2, c2, rfl, HA.out.below (below_setRow HT2.out.below (Nat.le_succ _) _), .inl ⟨rfl, rfl⟩, HST.out.below (below_setRow HT2.out.below (Nat.le_succ _) _), HCAP.out⟩, hd, fun h => absurd h (by decide), below_setRow HT2.out.below (Nat.le_succ _) _⟩
    · have h3' : (3 : Int) ≤ s.size := by omega
      have hk0 : 0 < s.size := by omega
      have hk0' : (0 : Int) < s.size := by omega
      have hg := getElem_list s 0 hk0
      rw [← List.head?_eq_getElem?] at hg
      have hq3 : decide ((s.size : Int) < 3) = false := decide_eq_false h3
      by_cases h61 : s[0] = 120
      · have hq : ((s[0].toNat : Int) != 120) = false := by rw [h61]; rfl
        have hhd : s.data.toList.head? = some 120 := by rw [hg, h61]
        have hli : (1 : Int) ≤ s.size := by omega
        have hte : s.data.toList.tail ≠ [] := by
          intro h; have := congrArg List.length h; rw [List.length_tail, HLS.out] at this; simp at this; omega
        have HX := fun W => refHexRead_calls (s.extract 1 s.size) W (by simp; have := HSZ.out; omega)
        rw [HEXT.out] at HX
        unfold HexPost at HX
        have HT5 : Hid ((sayV r 4 s.data.toList).2 = (if hexOk s.data.toList.tail then 0 else 3) ∧ ((sayV r 4 s.data.toList).2 = 0 → (sayV r 4 s.data.toList).1 = { r with b := if hexOk s.data.toList.tail then hexP s.data.toList.tail else [] })) := by
          show _ ∧ _
          rw [hsy.out]
          by_cases h : hexOk s.data.toList.tail = true
          · rw [if_pos ⟨hhd, h, hte⟩, if_pos h, if_pos h]; exact ⟨rfl, fun _ => rfl⟩
          · rw [if_neg (fun e => h e.2.1), if_neg h]; exact ⟨rfl, fun h => by simp at h⟩
        generalize hQ : (if hexOk s.data.toList.tail then hexP s.data.toList.tail else []) = Q at *
        generalize hE : (if hexOk s.data.toList.tail then (0 : Int) else 3) = E at *
        have HXX := Lib.hid HX
        clear HX hg h61 hhd hQ hE hte h3
        go_enter Tryz.func42, Tryz.ntmps42
        go_upto_region 1 with (fail)
        change Code.wp _ _ _ _ ((w.alloc (.cells (repS r A c1 A2 c2).toArray 37)).alloc (.cells zeroRS.toArray 37))
        generalize (w.alloc (.cells (repS r A c1 A2 c2).toArray 37)).alloc (.cells zeroRS.toArray 37) = w1 at *
        have HT := Lib.hid hT
        clear hT
        go_upto_region 26 with (first | (go_at_call 50; refine (HXX.out _).mono ?_; rintro e w2 ⟨A3, c3, rfl, hc2, hb2, hlow⟩; have HTB := Lib.hid (HT.out.later hb2); have HC2 := Lib.hid hc2; have HLOW := Lib.hid hlow; have HSZB := Lib.hid (lt_of_block HT.out.res); have cc1 : w2.cell? ⟨w.heap.size, 36, none⟩ = some (.slice A r.b.length c1) := (by rw [cell_of_row _ _ 36 _ _ _ HTB.out.row, List.getElem?_toArray]; exact repV_36 r _ _ hd); have f1 := frozen_of_row _ _ 36 _ _ HTB.out.row; clear hc2 hb2 hlow))
        have HT2 : Hid (TwoReps w (w2.setCell ⟨w.heap.size, 36, none⟩ (.slice A3 Q.length c3)) { r with b := Q } (.slice A3 Q.length c3) (.slice A2 r.l.length c2)) := HTB.out.set (repV_set36 r _ _ _ hd)
        have HCF : Hid (CellsIn ((w2.setCell ⟨w.heap.size, 36, none⟩ (.slice A3 Q.length c3)).setRow (w.heap.size + 1) (repV { r with b := Q } (.slice A3 Q.length c3) (.slice A2 r.l.length c2)).toArray) A3 (Lib.byteCells Q)) := by
          refine HC2.out.far w.heap.size (w.heap.size + 1) (fun i h1 h2 => ?_) (fun a e => ?_)
          · rw [setRow_far _ _ _ _ h2]; exact Below.heap_setCell w2 ⟨w.heap.size, 36, none⟩ _ i h1
          · have := HLOW.out a e; have := HSZB.out; omega
        generalize w2.setCell ⟨w.heap.size, 36, none⟩ (.slice A3 Q.length c3) = w3 at *
        clear cc1 f1
        have HL := Lib.hid (repV_length { r with b := Q } (.slice A3 Q.length c3) (.slice A2 r.l.length c2) hd)
        go_wp2_with (first | ((with_reducible apply wpList_load_repG w.heap.size (repV { r with b := Q } (.slice A3 Q.length c3) (.slice A2 r.l.length c2))); rfl; exact rangeAt_of_row HT2.out.row; exact HL.out; rfl) | ((with_reducible apply wpList_store_rep (w.heap.size + 1) (cs := (repV { r with b := Q } (.slice A3 Q.length c3) (.slice A2 r.l.length c2))) (c0 := zeroRS)); (case hy => rfl); (case hx => rfl); (case hf => exact HL.out); (case hf0 => exact zeroRS_length); (case h1 => exact repV_one _ _ _ rfl rfl); (case hg => exact HT2.out.res)))
        refine bodyPost_ret_by (results_rep rfl _ _ (w.heap.size + 1) (repV { r with b := Q } (.slice A3 Q.length c3) (.slice A2 r.l.length c2)) _ HL.out rfl (setRow_heap _ _ _ (repV { r with b := Q } (.slice A3 Q.length c3) (.slice A2 r.l.length c2)).toArray _ _ HT2.out.res) rfl) rfl ?_
        unfold PartPost
        rw [HT5.out.1]
        exact ⟨_, { r with b := Q }, rfl, ⟨A3, c3, A2, c2, rfl, HCF.out, .inr (fun a e => by have := HLOW.out a e; have := HSZB.out; omega), HST.out.below (below_setRow HT2.out.below (Nat.le_succ _) _), HCAP.out⟩, hd, fun h => (HT5.out.2 (HT5.out.1.trans h)).symm, below_setRow HT2.out.below (Nat.le_succ _) _⟩
      · have hq : ((s[0].toNat : Int) != 120) = true := by
          rw [bne_iff_ne]; intro e; exact h61 (UInt8.toNat_inj.1 (by have : (120 : UInt8).toNat = 120 := rfl; omega))
        have HV : Hid ((sayV r 4 s.data.toList).2 = 3) := by
          show _ = _
          rw [hsy.out, if_neg (fun h => by rw [hg] at h; have := h.1; injection this with this; exact h61 this)]
        clear hg h61 h3
        go_enter Tryz.func42, Tryz.ntmps42
        go_upto_region 1 with (fail)
        change Code.wp _ _ _ _ ((w.alloc (.cells (repS r A c1 A2 c2).toArray 37)).alloc (.cells zeroRS.toArray 37))
        generalize (w.alloc (.cells (repS r A c1 A2 c2).toArray 37)).alloc (.cells zeroRS.toArray 37) = w1 at *
        have HT2 := Lib.hid hT
        clear hT
        have HL := Lib.hid (repV_length r (.slice A r.b.length c1) (.slice A2 r.l.length c2) hd)
        go_wp2_with (first | ((with_reducible apply wpList_load_repG w.heap.size (repV r (.slice A r.b.length c1) (.slice A2 r.l.length c2))); rfl; exact rangeAt_of_row HT2.out.row; exact HL.out; rfl) | ((with_reducible apply wpList_store_rep (w.heap.size + 1) (cs := (repV r (.slice A r.b.length c1) (.slice A2 r.l.length c2))) (c0 := zeroRS)); (case hy => rfl); (case hx => rfl); (case hf => exact HL.out); (case hf0 => exact zeroRS_length); (case h1 => exact repV_one _ _ _ rfl rfl); (case hg => exact HT2.out.res)))
        refine bodyPost_ret_by (results_rep rfl _ _ (w.heap.size + 1) (repV r (.slice A r.b.length c1) (.slice A2 r.l.length c2)) _ HL.out rfl (setRow_heap _ _ _ (repV r (.slice A r.b.length c1) (.slice A2 r.l.length c2)).toArray _ _ HT2.out.res) rfl) rfl ?_
        unfold PartPost
        rw [HV.out]
        exact ⟨_, r, rfl, ⟨A, c1, A2, c2, rfl, HA.out.below (below_setRow HT2.out.below (Nat.le_succ _) _), .inl ⟨rfl, rfl⟩, HST.out.below (below_setRow HT2.out.below (Nat.le_succ _) _), HCAP.out⟩, hd, fun h => absurd h (by decide), below_setRow HT2.out.below (Nat.le_succ _) _⟩
  · have hv : Hid (sayV r 5 s.data.toList = if (splitC 44 s.data.toList).all tagOk = true then ({ r with l := listV s.data.toList }, 0) else (r, 3)) := by
      have e : sayV r 5 s.data.toList = if (splitC 44 s.data.toList).all tagOk = true then ({ r with l := splitC 44 s.data.toList }, 0) else (r, 3) := rfl
      show _ = _
      rw [e]
      by_cases h : (splitC 44 s.data.toList).all tagOk = true
      · rw [if_pos h, if_pos h]; unfold listV; rw [if_pos h]
      · rw [if_neg h, if_neg h]
    generalize listV s.data.toList = LV at *
    generalize (splitC 44 s.data.toList).all tagOk = ok at *
    cases ok with
    | true =>
      have HV : Hid (sayV r 5 s.data.toList = ({ r with l := LV }, 0)) := by show _ = _; rw [hv.out, if_pos rfl]
      go_enter Tryz.func42, Tryz.ntmps42
      go_upto_region 1 with (fail)
      change Code.wp _ _ _ _ ((w.alloc (.cells (repS r A c1 A2 c2).toArray 37)).alloc (.cells zeroRS.toArray 37))
      generalize (w.alloc (.cells (repS r A c1 A2 c2).toArray 37)).alloc (.cells zeroRS.toArray 37) = w1 at *
      have HT := Lib.hid hT
      clear hT
      go_upto_region 26 with (first | (go_at_call 61; refine (HSP.out _).mono ?_; rintro e w2 ⟨A3, c3, rfl, hs3, hcap3, hb2⟩; have HTB := Lib.hid (HT.out.later hb2); have HS3 := Lib.hid hs3; have HC3 := Lib.hid hcap3; have cc1 : w2.cell? ⟨w.heap.size, 37, none⟩ = some (.slice A2 r.l.length c2) := (by rw [cell_of_row _ _ 37 _ _ _ HTB.out.row, List.getElem?_toArray]; exact repV_37 r _ _ hd); have f1 := frozen_of_row _ _ 37 _ _ HTB.out.row; clear hs3 hcap3 hb2))
      have HT2 : Hid (TwoReps w (w2.setCell ⟨w.heap.size, 37, none⟩ (.slice A3 LV.length c3)) { r with l := LV } (.slice A r.b.length c1) (.slice A3 LV.length c3)) := HTB.out.set (repV_set37 r _ _ _ hd)
      have HSF : Hid (StrsIn (w2.setCell ⟨w.heap.size, 37, none⟩ (.slice A3 LV.length c3)) (.slice A3 LV.length c3) LV) := strs_far HS3.out (grown_set ⟨rfl, rfl, rfl, Nat.le_refl _, fun _ _ _ => rfl⟩ 37 _) HTB.out.row (repV_no_str r _ _ (fun s e => by cases e) (fun s e => by cases e))
      generalize w2.setCell ⟨w.heap.size, 37, none⟩ (.slice A3 LV.length c3) = w3 at *
      clear cc1 f1
      have HL := Lib.hid (repV_length { r with l := LV } (.slice A r.b.length c1) (.slice A3 LV.length c3) hd)
      go_wp2_with (first | ((with_reducible apply wpList_load_repG w.heap.size (repV { r with l := LV } (.slice A r.b.length c1) (.slice A3 LV.length c3))); rfl; exact rangeAt_of_row HT2.out.row; exact HL.out; rfl) | ((with_reducible apply wpList_store_rep (w.heap.size + 1) (cs := (repV { r with l := LV } (.slice A r.b.length c1) (.slice A3 LV.length c3))) (c0 := zeroRS)); (case hy => rfl); (case hx => rfl); (case hf => exact HL.out); (case hf0 => exact zeroRS_length); (case h1 => exact repV_one _ _ _ rfl rfl); (case hg => exact HT2.out.res)))
      refine bodyPost_ret_by (results_rep rfl _ _ (w.heap.size + 1) (repV { r with l := LV } (.slice A r.b.length c1) (.slice A3 LV.length c3)) _ HL.out rfl (setRow_heap _ _ _ (repV { r with l := LV } (.slice A r.b.length c1) (.slice A3 LV.length c3)).toArray _ _ HT2.out.res) rfl) rfl ?_
      unfold PartPost
      rw [HV.out]
      exact ⟨_, { r with l := LV }, rfl, ⟨A, c1, A3, c3, rfl, HA.out.below (below_setRow HT2.out.below (Nat.le_succ _) _), .inl ⟨rfl, rfl⟩, strs_setRow HSF.out HT2.out.res zeroRS_no_str, HC3.out⟩, hd, fun _ => rfl, below_setRow HT2.out.below (Nat.le_succ _) _⟩
    | false =>
      have HV : Hid (sayV r 5 s.data.toList = (r, 3)) := by show _ = _; rw [hv.out, if_neg (by decide)]
      go_enter Tryz.func42, Tryz.ntmps42
      go_upto_region 1 with (fail)
      change Code.wp _ _ _ _ ((w.alloc (.cells (repS r A c1 A2 c2).toArray 37)).alloc (.cells zeroRS.toArray 37))
      generalize (w.alloc (.cells (repS r A c1 A2 c2).toArray 37)).alloc (.cells zeroRS.toArray 37) = w1 at *
      have HT := Lib.hid hT
      clear hT
      go_upto_region 26 with (first | (go_at_call 61; refine (HSP.out _).mono ?_; rintro e w2 ⟨A3, c3, rfl, hs3, hcap3, hb2⟩; have HTB := Lib.hid (HT.out.later hb2); have HS3 := Lib.hid hs3; have HC3 := Lib.hid hcap3; have cc1 : w2.cell? ⟨w.heap.size, 37, none⟩ = some (.slice A2 r.l.length c2) := (by rw [cell_of_row _ _ 37 _ _ _ HTB.out.row, List.getElem?_toArray]; exact repV_37 r _ _ hd); have f1 := frozen_of_row _ _ 37 _ _ HTB.out.row; clear hs3 hcap3 hb2))
      have HT2 : Hid (TwoReps w (w2.setCell ⟨w.heap.size, 37, none⟩ (.slice A3 LV.length c3)) { r with l := LV } (.slice A r.b.length c1) (.slice A3 LV.length c3)) := HTB.out.set (repV_set37 r _ _ _ hd)
      have HSF : Hid (StrsIn (w2.setCell ⟨w.heap.size, 37, none⟩ (.slice A3 LV.length c3)) (.slice A3 LV.length c3) LV) := strs_far HS3.out (grown_set ⟨rfl, rfl, rfl, Nat.le_refl _, fun _ _ _ => rfl⟩ 37 _) HTB.out.row (repV_no_str r _ _ (fun s e => by cases e) (fun s e => by cases e))
      generalize w2.setCell ⟨w.heap.size, 37, none⟩ (.slice A3 LV.length c3) = w3 at *
      clear cc1 f1
      have HL := Lib.hid (repV_length { r with l := LV } (.slice A r.b.length c1) (.slice A3 LV.length c3) hd)
      go_wp2_with (first | ((with_reducible apply wpList_load_repG w.heap.size (repV { r with l := LV } (.slice A r.b.length c1) (.slice A3 LV.length c3))); rfl; exact rangeAt_of_row HT2.out.row; exact HL.out; rfl) | ((with_reducible apply wpList_store_rep (w.heap.size + 1) (cs := (repV { r with l := LV } (.slice A r.b.length c1) (.slice A3 LV.length c3))) (c0 := zeroRS)); (case hy => rfl); (case hx => rfl); (case hf => exact HL.out); (case hf0 => exact zeroRS_length); (case h1 => exact repV_one _ _ _ rfl rfl); (case hg => exact HT2.out.res)))
      refine bodyPost_ret_by (results_rep rfl _ _ (w.heap.size + 1) (repV { r with l := LV } (.slice A r.b.length c1) (.slice A3 LV.length c3)) _ HL.out rfl (setRow_heap _ _ _ (repV { r with l := LV } (.slice A r.b.length c1) (.slice A3 LV.length c3)).toArray _ _ HT2.out.res) rfl) rfl ?_
      unfold PartPost
      rw [HV.out]
      exact ⟨_, { r with l := LV }, rfl, ⟨A, c1, A3, c3, rfl, HA.out.below (below_setRow HT2.out.below (Nat.le_succ _) _), .inl ⟨rfl, rfl⟩, strs_setRow HSF.out HT2.out.res zeroRS_no_str, HC3.out⟩, hd, fun h => absurd h (by show (3 : Int) ≠ 0; decide), below_setRow HT2.out.below (Nat.le_succ _) _⟩
end Go.Proofs.YtjplfkcelkijfaaGreatDoor
