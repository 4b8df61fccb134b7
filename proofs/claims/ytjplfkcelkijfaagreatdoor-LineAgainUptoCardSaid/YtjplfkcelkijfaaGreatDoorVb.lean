/- The reference's number: which number a word is. Condition: a word of at most 8388608 bytes. -/
import Derived.Deep.CutRange
import Derived.Test.YtjplfkcelkijfaaGreatDoorVa
namespace Go.Proofs.YtjplfkcelkijfaaGreatDoor
open Go.RowKit

theorem decV_take_succ {D : List UInt8} {k : Nat} {c : UInt8} (h : D[k]? = some c) : decV 0 (D.take (k + 1)) = decV 0 (D.take k) * 10 + (c.toNat - 48) := by
  rw [List.take_add_one, h]
  exact decV_snoc 0 c (D.take k)
theorem decV_take_le (D : List UInt8) (k : Nat) : decV 0 (D.take k) ≤ decV 0 D := by
  have h : decV 0 D = decV (decV 0 (D.take k)) (D.drop k) := by
    conv => lhs; rw [← List.take_append_drop k D]
    unfold decV; rw [List.foldl_append]
  rw [h]; exact decV_ge _ _
/-- the loop over figures: those so far are figures -/
def DigTo (D : List UInt8) (k : Nat) : Prop := ∀ j c, j < k → D[j]? = some c → isDig c = true
theorem digTo_all {D : List UInt8} {k : Nat} (h : DigTo D k) (hk : D.length ≤ k) : D.all isDig = true := by
  rw [List.all_eq_true]
  intro x hx
  obtain ⟨j, hj, e⟩ := List.getElem_of_mem hx
  exact h j x (by omega) (by rw [List.getElem?_eq_getElem hj, e])
theorem ret_i64 {a b : Int} (h : a = b) : Value.int .i64 a = .int .i64 b := by rw [h]
theorem quo_lt {m x : Nat} (hx : x ≤ 9) : (-(m : Int) < (-9223372036854775808 + (x : Int)).tdiv 10) ↔ 9223372036854775808 < m * 10 + x := by
  have e : (-9223372036854775808 + (x : Int)).tdiv 10 = -((9223372036854775808 - (x : Int)) / 10) := by
    have h1 : (-9223372036854775808 + (x : Int)) = -(9223372036854775808 - (x : Int)) := by omega
    rw [h1, Int.neg_tdiv, Int.tdiv_eq_ediv_of_nonneg (by omega)]
  rw [e]
  omega
set_option maxHeartbeats 2000000 in
set_option maxRecDepth 100000 in
theorem refNumber_calls (s : ByteArray) (w : World) (hs : s.size ≤ 8388608) :
    Calls Tryz.prog 40 #[.string s] w fun e w' => e = .returned (.tuple #[.int .i64 (numV s.data.toList).1, .int .i64 (numV s.data.toList).2]) ∧ w = w' := by
  have hs' : (s.size : Int) ≤ 8388608 := by omega
  have hls : s.data.toList.length = s.size := by simp
  have hfl : (figsOf s.data.toList).length ≤ s.size := by
    unfold figsOf
    split
    · rw [List.length_tail]; omega
    · omega
  have HLS := Lib.hid hls
  have HFL := Lib.hid hfl
  clear hs hls hfl
  go_enter Tryz.func40, Tryz.ntmps40
  go_upto_region 1 with (fail)
  go_cut [4] from 10 to 17 (fun n wc => n = .bool (negOf s.data.toList) ∧ w = wc)
  case first =>
    by_cases h0 : (0 : Int) < s.size
    · have hk0 : 0 < s.size := by omega
      have hg := getElem_list s 0 hk0
      by_cases h45 : s[0] = 45
      · have hq : ((s[0].toNat : Int) == 45) = true := by rw [h45]; rfl
        have HN : Hid (negOf s.data.toList = true) := by
          have hh : s.data.toList.head? = some 45 := by rw [List.head?_eq_getElem?, hg, h45]
          show _ = true
          unfold negOf; rw [hh]; rfl
        clear h45 hg
        go_wp2_with fail
        go_meet
        case rel => exact ⟨by rw [HN.out], rfl⟩
      · have hq : ((s[0].toNat : Int) == 45) = false := by
          rw [beq_eq_false_iff_ne]; intro e; exact h45 (UInt8.toNat_inj.1 (by have : (45 : UInt8).toNat = 45 := rfl; omega))
        have HN : Hid (negOf s.data.toList = false) := by
          have hh : s.data.toList.head? ≠ some 45 := by rw [List.head?_eq_getElem?, hg]; intro e; injection e with e; exact h45 e
          show _ = false
          unfold negOf; exact decide_eq_false hh
        clear h45 hg
        go_wp2_with fail
        go_meet
        case rel => exact ⟨by rw [HN.out], rfl⟩
    · have HN : Hid (negOf s.data.toList = false) := by
        have hnil : s.data.toList = [] := List.eq_nil_of_length_eq_zero (by rw [HLS.out]; omega)
        show _ = false
        rw [hnil]; rfl
      go_wp2_with fail
      go_meet
      case rel => exact ⟨by rw [HN.out], rfl⟩
  case rest =>
    obtain ⟨rfl, rfl⟩ := hcut
    obtain ⟨NG, hng⟩ : ∃ b, negOf s.data.toList = b := ⟨_, rfl⟩
    rw [hng]
    have HNG := Lib.hid hng
    clear hng
    go_upto_if 19 with (fail)
    go_cut [5] from 19 to 21 (fun d wc => (∃ dB : ByteArray, d = .string dB ∧ Hid (figsOf s.data.toList = dB.data.toList)) ∧ w = wc)
    case first =>
      cases NG with
      | true =>
        have hh : s.data.toList.head? = some 45 := by have := HNG.out; unfold negOf at this; exact of_decide_eq_true this
        have hlen : 1 ≤ s.size := by
          rw [← HLS.out]
          cases hl : s.data.toList with
          | nil => rw [hl] at hh; cases hh
          | cons a r => simp
        have hli : (1 : Int) ≤ s.size := by omega
        have HN : Hid (figsOf s.data.toList = (s.extract 1 s.size).data.toList) := by
          show _ = _
          rw [Lib.extract_data]
          unfold figsOf
          rw [if_pos hh, List.take_of_length_le (by rw [List.length_drop, HLS.out]; omega), List.drop_one]
        clear hh
        go_wp2_with fail
        go_meet
        case rel => exact ⟨⟨_, rfl, HN⟩, rfl⟩
      | false =>
        have HN : Hid (figsOf s.data.toList = s.data.toList) := by
          have hh : ¬ s.data.toList.head? = some 45 := by have := HNG.out; unfold negOf at this; exact of_decide_eq_false this
          show _ = _
          unfold figsOf
          rw [if_neg hh]
        go_wp2_with fail
        go_meet
        case rel => exact ⟨⟨_, rfl, HN⟩, rfl⟩
    case rest =>
      obtain ⟨⟨d, rfl, HD⟩, rfl⟩ := hcut
      have hdl : d.data.toList.length = d.size := by simp
      have hds : (d.size : Int) ≤ 8388608 := by have h1 := HFL.out; rw [HD.out, hdl] at h1; omega
      have HDL := Lib.hid hdl
      clear hdl
      have hde := isEmpty_toList d
      by_cases h0 : (0 : Int) < d.size
      · have hk0 : 0 < d.size := by omega
        have hem : d.toList.isEmpty = false := by rw [hde]; exact decide_eq_false (by omega)
        have hg := getElem_list d 0 hk0
        have hhead : (figsOf s.data.toList).head? = some d[0] := by rw [HD.out, List.head?_eq_getElem?]; exact hg
        clear hde hg
        by_cases hbad : d[0] = 48 ∧ s.data.toList ≠ [48]
        · have hq : ((d[0].toNat : Int) == 48) = true := by rw [hbad.1]; rfl
          have hq2 : (s.toList == [48]) = false := by rw [ByteArray.toList_eq, beq_eq_false_iff_ne]; exact hbad.2
          have hq3 : (s.toList != [48]) = true := by rw [bne, hq2]; rfl
          have HV : Hid (numV s.data.toList = (0, 3)) := by
            show _ = _
            have : numBad s.data.toList = true := by
              unfold numBad
              rw [hhead, hbad.1, decide_eq_true rfl, decide_eq_true hbad.2]; simp
            unfold numV; rw [if_pos this]
          clear hbad hhead
          go_wp2_with fail
          go_ret2
          exact ⟨by rw [HV.out]; rfl, rfl⟩
        · have HGOOD : Hid ((decide ((figsOf s.data.toList).head? = some 48) && decide (s.data.toList ≠ [48])) = false) := by
            show _ = false
            rw [hhead]
            by_cases h48 : d[0] = 48
            · have : s.data.toList = [48] := Classical.byContradiction fun h => hbad ⟨h48, h⟩
              rw [decide_eq_false (show ¬ s.data.toList ≠ [48] from fun h => h this), Bool.and_false]
            · rw [decide_eq_false (show ¬ some d[0] = some 48 from fun e => h48 (by injection e)), Bool.false_and]
          have hways : (((d[0].toNat : Int) == 48) = true ∧ (s.toList == [48]) = true ∧ (s.toList != [48]) = false) ∨ ((d[0].toNat : Int) == 48) = false := by
            by_cases h48 : d[0] = 48
            · have : s.data.toList = [48] := Classical.byContradiction fun h => hbad ⟨h48, h⟩
              exact .inl ⟨by rw [h48]; rfl, by rw [ByteArray.toList_eq, this]; rfl, by rw [ByteArray.toList_eq, this]; rfl⟩
            · exact .inr (by rw [beq_eq_false_iff_ne]; intro e; exact h48 (UInt8.toNat_inj.1 (by have : (48 : UInt8).toNat = 48 := rfl; omega)))
          clear hbad hhead
          rcases hways with ⟨hq, hq2, hq3⟩ | hq
          all_goals
            go_wp2_with fail
            go_loop [6] (fun i => ∃ k : Nat, i = .int .i64 k ∧ (k : Int) ≤ d.size ∧ Hid (DigTo d.data.toList k)) (fun i => d.size - (intOf i).toNat)
            case atStart => exact ⟨0, rfl, by omega, fun j c hj => by omega⟩
            case round =>
              obtain ⟨k, rfl, hk, hto⟩ := hrel
              by_cases hlt : (k : Int) < d.size
              · have hk' : k < d.size := by omega
                have HG := Lib.hid (getElem_list d k hk')
                by_cases hdg : (48 : Int) ≤ d[k].toNat ∧ (d[k].toNat : Int) ≤ 57
                · have HN : Hid (DigTo d.data.toList (k + 1)) := fun j c hj hc => by
                    by_cases e : j = k
                    · subst e
                      rw [HG.out] at hc
                      injection hc with hc
                      subst hc
                      unfold isDig; exact decide_eq_true (by omega)
                    · exact hto.out j c (by omega) hc
                  obtain ⟨hd1, hd2⟩ := hdg
                  clear hto
                  go_wp2_with fail
                  go_round
                  case rel => exact ⟨k + 1, by go_num, by omega, HN⟩
                  case measure => simp [intOf]; omega
                · have HV : Hid (numV s.data.toList = (0, 3)) := by
                    show _ = _
                    have hall : (figsOf s.data.toList).all isDig = false := by
                      rw [Bool.eq_false_iff]
                      intro h
                      have := List.all_eq_true.1 h d[k] (by rw [HD.out]; exact List.mem_of_getElem? HG.out)
                      unfold isDig at this
                      have := of_decide_eq_true this
                      omega
                    have : numBad s.data.toList = true := by
                      unfold numBad
                      rw [hall]; simp
                    unfold numV; rw [if_pos this]
                  clear hto
                  by_cases hlo : (d[k].toNat : Int) < 48
                  · clear hdg
                    go_wp2_with fail
                    go_ret2
                    exact ⟨by rw [HV.out]; rfl, rfl⟩
                  · have hhi : (57 : Int) < d[k].toNat := by omega
                    clear hdg
                    go_wp2_with fail
                    go_ret2
                    exact ⟨by rw [HV.out]; rfl, rfl⟩
              · have HNB : Hid (numBad s.data.toList = false) := by
                  show _ = _
                  unfold numBad
                  rw [HGOOD.out, Bool.or_false, HD.out, digTo_all hto.out (by rw [HDL.out]; omega)]
                  have : d.data.toList.isEmpty = false := by
                    rw [Bool.eq_false_iff]; intro h
                    have := List.isEmpty_iff.1 h
                    have h2 := HDL.out
                    rw [this] at h2; simp at h2; omega
                  rw [this]; rfl
                have HTO : Hid (DigTo d.data.toList d.size) := by
                  have : k = d.size := by omega
                  rw [this] at hto; exact hto
                clear hto
                go_wp2_with fail
                go_loop [7, 8] (fun n i => ∃ k m : Nat, i = .int .i64 k ∧ n = .int .i64 (-(m : Int)) ∧ (k : Int) ≤ d.size ∧ Hid (m = decV 0 (d.data.toList.take k)) ∧ (m : Int) ≤ 9223372036854775808) (fun _ i => d.size - (intOf i).toNat)
                case atStart => exact ⟨0, 0, rfl, rfl, by omega, rfl, by omega⟩
                case round =>
                  obtain ⟨j, m, rfl, rfl, hj, hm, hmb⟩ := hrel
                  by_cases hlt2 : (j : Int) < d.size
                  · have hj' : j < d.size := by omega
                    have hgj := getElem_list d j hj'
                    have hdj := HTO.out j d[j] hj' hgj
                    have hb1 : (48 : Int) ≤ d[j].toNat := by have := of_decide_eq_true hdj; omega
                    have hb2 : (d[j].toNat : Int) ≤ 57 := by have := of_decide_eq_true hdj; omega
                    have hql := quo_lt (m := m) (x := d[j].toNat - 48) (by omega)
                    have hcast : ((d[j].toNat - 48 : Nat) : Int) = (d[j].toNat : Int) - 48 := by omega
                    rw [hcast] at hql
                    have HM : Hid (decV 0 (d.data.toList.take (j + 1)) = m * 10 + (d[j].toNat - 48)) := by
                      show _ = _
                      rw [decV_take_succ hgj, hm.out]
                    clear hgj hdj hcast
                    by_cases hov : 9223372036854775808 < m * 10 + (d[j].toNat - 48)
                    · have ht := hql.2 hov
                      have HV : Hid (numV s.data.toList = (0, 20)) := by
                        show _ = _
                        have hle := decV_take_le d.data.toList (j + 1)
                        rw [HM.out] at hle
                        unfold numV
                        rw [if_neg (by rw [HNB.out]; simp), HD.out]
                        split
                        · rw [if_neg (by omega)]
                        · rw [if_neg (by omega)]
                      clear hql hov
                      go_wp2_with fail
                      go_ret2
                      exact ⟨by rw [HV.out]; rfl, rfl⟩
                    · have ht : ¬ (-(m : Int) < (-9223372036854775808 + ((d[j].toNat : Int) - 48)).tdiv 10) := fun h => hov (hql.1 h)
                      have hmm : (m : Int) * 10 + ((d[j].toNat : Int) - 48) ≤ 9223372036854775808 := by omega
                      clear hql hov
                      go_wp2_with fail
                      go_round
                      case rel => exact ⟨j + 1, m * 10 + (d[j].toNat - 48), by go_num, ret_i64 (by omega), by omega, HM.out.symm, by omega⟩
                      case measure => simp [intOf]; omega
                  · have HM : Hid (decV 0 d.data.toList = m) := by
                      show _ = _
                      have : j = d.data.toList.length := by rw [HDL.out]; omega
                      have h2 := hm.out
                      rw [this, List.take_length] at h2
                      exact h2.symm
                    have HV : Hid (numV s.data.toList = if NG then (if m ≤ 9223372036854775808 then (-(m : Int), 0) else (0, 20)) else (if m < 9223372036854775808 then ((m : Int), 0) else (0, 20))) := by
                      show _ = _
                      unfold numV
                      rw [if_neg (by rw [HNB.out]; simp), HD.out, HM.out, HNG.out]
                    cases NG with
                    | true =>
                      have hv2 := HV.out
                      simp only [if_true] at hv2
                      rw [if_pos (by omega)] at hv2
                      have HV2 := Lib.hid hv2
                      clear hv2 HV
                      go_wp2_with fail
                      go_ret2
                      exact ⟨by rw [HV2.out]; rfl, rfl⟩
                    | false =>
                      have hv2 := HV.out
                      simp only [Bool.false_eq_true, if_false] at hv2
                      have HV2 := Lib.hid hv2
                      clear hv2 HV
                      by_cases he : m = 9223372036854775808
                      · have hq9 : ((-(m : Int)) == -9223372036854775808) = true := by rw [he]; rfl
                        have HE := Lib.hid he
                        clear he
                        go_wp2_with fail
                        go_ret2
                        exact ⟨by rw [HV2.out, if_neg (by have := HE.out; omega)]; rfl, rfl⟩
                      · have hq9 : ((-(m : Int)) == -9223372036854775808) = false := by rw [beq_eq_false_iff_ne]; omega
                        have hmlt : (m : Int) < 9223372036854775808 := by omega
                        clear he
                        go_wp2_with fail
                        go_ret2
                        exact ⟨by rw [HV2.out, if_pos (by omega)]; rfl, rfl⟩
      · have hem : d.toList.isEmpty = true := by rw [hde]; exact decide_eq_true (by omega)
        have HV : Hid (numV s.data.toList = (0, 3)) := by
          show _ = _
          have hnil : figsOf s.data.toList = [] := by rw [HD.out]; exact List.eq_nil_of_length_eq_zero (by rw [HDL.out]; omega)
          unfold numV numBad
          rw [hnil]; rfl
        clear hde
        go_wp2_with fail
        go_ret2
        exact ⟨by rw [HV.out]; rfl, rfl⟩
end Go.Proofs.YtjplfkcelkijfaaGreatDoor
