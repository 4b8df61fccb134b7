/- The law RetainAgain: each name in one of both; what stays stays a second time. Condition: at most 1048576 rules and names, patterns and names of at most 1048576 bytes. -/
import Derived.Test.YtolaecdopfmbgaaDoorRv
namespace Go.Proofs.YtolaecdopfmbgaaDoor
open Go.RowKit Go.Shelf

theorem keepV_le1 (R : List Rul) (l : List (List UInt8)) (hm : l.length ≤ 1048576) : (keepV R (rowV l)).1.length ≤ 1048576 := by
  have hlen : (rowV l).length ≤ 1048576 := by have := rowV_len l; omega
  have : (keepR (ruleN R) R.length (lastOf R) (rowV l)).1.length ≤ (rowV l).length := (keepR_sub (rowV l)).1.length_le
  unfold keepV; split
  · omega
  · simp only; omega
theorem keepV_le2 (R : List Rul) (l : List (List UInt8)) (hm : l.length ≤ 1048576) : (keepV R (rowV l)).2.length ≤ 1048576 := by
  have hlen : (rowV l).length ≤ 1048576 := by have := rowV_len l; omega
  have : (keepR (ruleN R) R.length (lastOf R) (rowV l)).2.length ≤ (rowV l).length := (keepR_sub (rowV l)).2.length_le
  unfold keepV; split
  · omega
  · simp
theorem keepV_count (R : List Rul) (l : List (List UInt8)) (x : List UInt8) (hx : x ∈ l) : (keepV R (rowV l)).1.count x + (keepV R (rowV l)).2.count x = 1 := by
  have hx' : x ∈ rowV l := (rowV_mem x l).2 hx
  unfold keepV; split
  · exact count_one _ (rowV_srt l).nodup x hx'
  · simpa using count_one_of (rowV_srt l).nodup hx'
theorem keepV_again (R : List Rul) (l : List (List UInt8)) : keepV R (rowV (keepV R (rowV l)).1) = ((keepV R (rowV l)).1, []) := by
  have hs : Srt (keepV R (rowV l)).1 := by
    unfold keepV; split
    · exact (rowV_srt l).sublist (keepR_sub (rowV l)).1
    · exact rowV_srt l
  rw [rowV_self _ hs]
  unfold keepV
  by_cases h : rightV R = 0
  · simp only [if_pos h]; exact keepR_again _
  · simp only [if_neg h]
theorem keepV_small (R : List Rul) (l : List (List UInt8)) (h : Small l) : Small (keepV R (rowV l)).1 := by
  intro x hx
  apply h x
  rw [← rowV_mem]
  unfold keepV at hx; split at hx
  · exact (keepR_sub (rowV l)).1.subset hx
  · exact hx

set_option maxRecDepth 100000 in
set_option maxHeartbeats 4000000 in
theorem law_again (R : List Rul) (l : List (List UInt8)) (va vb : Value) (w : World) (hva : RulIn w va R) (hs : RulS R) (hn : R.length ≤ 1048576) (hvb : NamIn w vb l) (hl : Small l) (hm : l.length ≤ 1048576) :
    Calls Tryd.prog 8 #[va, vb] w fun e w' => e = .returned (.bool true) ∧ Below w.heap.size w w' := by
  have HR := Lib.hid hva
  have HN := Lib.hid hvb
  have HRU := Lib.hid (fun W h => rules_calls R va W h hn)
  have HK := Lib.hid (fun v W h1 h2 => keep_calls R l v vb W h1 hs hn h2 hl hm)
  have HT := Lib.hid (fun (l : List (List UInt8)) (va vb : Value) (w : World) ha hb hl => texts_same l va vb w ha hb hl)
  have HL := Lib.hid lives_calls
  obtain ⟨b, cb, rfl, hcb⟩ := hvb.at_
  have HCB := Lib.hid hcb
  clear hva hvb hcb
  have hm' : (l.length : Int) ≤ 1048576 := by omega
  go_enter Tryd.func8, Tryd.ntmps8
  go_wp2_with fail
  refine (HRU.out w HR.out).mono ?_
  rintro e w1 ⟨v1, rfl, o1, b1⟩
  have hR1 := Lib.hid (RulIn.of_owns o1)
  have HB1 := Lib.hid b1
  have hs1 := b1.size
  clear o1 b1
  go_wp2_with fail
  refine (HK.out v1 w1 hR1.out (HN.out.below HB1.out)).mono ?_
  rintro e w2 ⟨va', vb', rfl, oa, ob, b2⟩
  have HB2 : Hid (Below w.heap.size w w2) := HB1.out.trans (b2.mono hs1)
  have hs2 := HB2.out.size
  have na := NamIn.of_owns oa
  have nb := NamIn.of_owns ob
  have HNA := Lib.hid na
  obtain ⟨A1, c1, rfl, h1⟩ := na.at_
  obtain ⟨A2, c2, rfl, h2⟩ := nb.at_
  have H1 := Lib.hid h1
  have H2 := Lib.hid h2
  clear oa ob b2 na nb h1 h2
  have hP : (keepV R (rowV l)).1.length ≤ 1048576 := keepV_le1 R l hm
  have hQ : (keepV R (rowV l)).2.length ≤ 1048576 := keepV_le2 R l hm
  have hC := Lib.hid (fun x hx => keepV_count R l x hx)
  have hG := Lib.hid (keepV_again R l)
  have hSP : Hid (Small (keepV R (rowV l)).1) := keepV_small R l hl
  generalize (keepV R (rowV l)).1 = P at *
  generalize (keepV R (rowV l)).2 = Q at *
  have hP' : (P.length : Int) ≤ 1048576 := by omega
  have hQ' : (Q.length : Int) ≤ 1048576 := by omega
  go_wp2_with fail
  go_loopw [7] (fun i wr => ∃ k : Nat, i = .int .i64 k ∧ k ≤ l.length ∧ ∃ n, wr = w2.drewN n) (fun i _ => l.length - (intOf i).toNat)
  case atStart => exact ⟨0, rfl, by omega, 0, rfl⟩
  case round =>
    obtain ⟨k, rfl, hk, n, rfl⟩ := hrel
    by_cases h : k < l.length
    · obtain ⟨g1, o1, rfl, e1⟩ := HCB.out w2 HB2.out k h
      have hcnt := hC.out l[k] (List.getElem_mem h)
      generalize l[k] = x at *
      go_wp2_with fail
      go_loopw [8, 10] (fun v8 j wr => ∃ c q : Nat, v8 = .int .i64 c ∧ j = .int .i64 q ∧ q ≤ P.length ∧ c ≤ q ∧ c = (P.take q).count x ∧ ∃ n, wr = w2.drewN n) (fun _ j _ => P.length - (intOf j).toNat)
      case atStart => exact ⟨0, 0, rfl, rfl, by omega, by omega, by simp, n, rfl⟩
      case round =>
        obtain ⟨c, q, rfl, rfl, hq, hcq, hc, n1, rfl⟩ := hrel
        by_cases hqt : q < P.length
        · obtain ⟨g3, o3, rfl, e3⟩ := H1.out w2 (Below.refl _ _) q hqt
          have hsn : P.take (q + 1) = P.take q ++ [P[q]] := List.take_succ_eq_append_getElem hqt
          have hc1 : (P.take (q + 1)).count x = (P.take q).count x + if P[q] = x then 1 else 0 := by rw [hsn, List.count_append, List.count_singleton]; simp [beq_iff_eq]
          generalize P[q] = y at *
          clear hsn
          have hbe := strV_beq y x
          by_cases hyx : y = x
          · rw [decide_eq_true hyx] at hbe
            rw [if_pos hyx] at hc1
            go_wp2_with fail
            go_quiet (fail)
            go_wp2_with fail
            go_roundw
            case rel => exact ⟨c + 1, q + 1, by go_num, by go_num, by omega, by omega, by rw [hc1, hc], n1 + nq, by first | rfl | rw [World.drewN_drewN]⟩
            case measure => simp [intOf]; omega
          · rw [decide_eq_false hyx] at hbe
            rw [if_neg hyx] at hc1
            go_wp2_with fail
            go_quiet (fail)
            go_wp2_with fail
            go_roundw
            case rel => exact ⟨c, q + 1, by go_num, by go_num, by omega, by omega, by rw [hc1, hc]; rfl, n1 + nq, by first | rfl | rw [World.drewN_drewN]⟩
            case measure => simp [intOf]; omega
        · obtain rfl : q = P.length := by omega
          rw [List.take_length] at hc
          go_wp2_with fail
          go_loopw [9, 11] (fun v9 j wr => ∃ d q : Nat, v9 = .int .i64 d ∧ j = .int .i64 q ∧ q ≤ Q.length ∧ d ≤ q ∧ d = (Q.take q).count x ∧ ∃ n, wr = w2.drewN n) (fun _ j _ => Q.length - (intOf j).toNat)
          case atStart => exact ⟨0, 0, rfl, rfl, by omega, by omega, by simp, n1, rfl⟩
          case round =>
            obtain ⟨d, q, rfl, rfl, hq, hdq, hd, n2, rfl⟩ := hrel
            by_cases hqt : q < Q.length
            · obtain ⟨g4, o4, rfl, e4⟩ := H2.out w2 (Below.refl _ _) q hqt
              have hsn : Q.take (q + 1) = Q.take q ++ [Q[q]] := List.take_succ_eq_append_getElem hqt
              have hd1 : (Q.take (q + 1)).count x = (Q.take q).count x + if Q[q] = x then 1 else 0 := by rw [hsn, List.count_append, List.count_singleton]; simp [beq_iff_eq]
              generalize Q[q] = y at *
              clear hsn
              have hbe := strV_beq y x
              by_cases hyx : y = x
              · rw [decide_eq_true hyx] at hbe
                rw [if_pos hyx] at hd1
                go_wp2_with fail
                go_quiet (fail)
                go_wp2_with fail
                go_roundw
                case rel => exact ⟨d + 1, q + 1, by go_num, by go_num, by omega, by omega, by rw [hd1, hd], n2 + nq, by first | rfl | rw [World.drewN_drewN]⟩
                case measure => simp [intOf]; omega
              · rw [decide_eq_false hyx] at hbe
                rw [if_neg hyx] at hd1
                go_wp2_with fail
                go_quiet (fail)
                go_wp2_with fail
                go_roundw
                case rel => exact ⟨d, q + 1, by go_num, by go_num, by omega, by omega, by rw [hd1, hd]; rfl, n2 + nq, by first | rfl | rw [World.drewN_drewN]⟩
                case measure => simp [intOf]; omega
            · obtain rfl : q = Q.length := by omega
              rw [List.take_length] at hd
              have hsum : (c : Int) + (d : Int) = 1 := by omega
              clear hc hd hcnt
              go_wp2_with fail
              go_roundw
              case rel => exact ⟨k + 1, by go_num, by omega, n2, rfl⟩
              case measure => simp [intOf]; omega
    · go_wp2_with fail
      have b3 : Below w.heap.size w (w2.drewN n) := below_drewN HB2.out n
      have na3 : NamIn (w2.drewN n) (.slice A1 P.length c1) P := HNA.out.drewN n
      generalize w2.drewN n = w3 at *
      have HB3 := Lib.hid b3
      have HNA3 := Lib.hid na3
      have hs3 := b3.size
      clear b3 na3
      refine (HRU.out w3 (HR.out.below HB3.out)).mono ?_
      rintro e w4 ⟨v4, rfl, o4, b4⟩
      have hR4 := Lib.hid (RulIn.of_owns o4)
      have HB4 : Hid (Below w.heap.size w w4) := HB3.out.trans (b4.mono hs3)
      have HNA4 := Lib.hid (HNA3.out.below b4)
      have hs4 := HB4.out.size
      clear o4 b4
      go_wp2_with fail
      have HK2 := keep_calls R P v4 (.slice A1 P.length c1) w4 hR4.out hs hn HNA4.out hSP.out hP
      rw [hG.out] at HK2
      refine HK2.mono ?_
      rintro e w5 ⟨vc, vd, rfl, oc, od, b5⟩
      have HB5 : Hid (Below w.heap.size w w5) := HB4.out.trans (b5.mono hs4)
      have hNC := Lib.hid (NamIn.of_owns oc)
      have HNA5 := Lib.hid (HNA4.out.below b5)
      obtain ⟨A9, c9, rfl⟩ := owns_slice od
      have hs5 := HB5.out.size
      clear oc od b5 HK2
      go_wp2_with fail
      refine (HT.out P _ _ w5 HNA5.out hNC.out (by omega)).mono ?_
      rintro e w6 ⟨rfl, n6, rfl⟩
      have b6 : Below w.heap.size w (w5.drewN n6) := below_drewN HB5.out n6
      generalize w5.drewN n6 = w6 at *
      have HB6 := Lib.hid b6
      have hs6 := b6.size
      clear b6
      go_wp2_with fail
      refine (HL.out w6).mono ?_
      rintro e w7 ⟨rfl, b7⟩
      go_wp2_with fail
      go_ret
      exact ⟨rfl, HB6.out.trans (b7.mono hs6)⟩
end Go.Proofs.YtolaecdopfmbgaaDoor
