/- The reference's closes and in, for strings of at most 140737488351232 bytes: they answer as glob.end and glob.class. -/
import Derived.Test.YtolaecdopfmbgaaDoorGlG
namespace Go.Proofs.YtolaecdopfmbgaaDoor.Gl
open Go.RowKit

theorem hasPrefix94 (l : List UInt8) : Lib.hasPrefix l [94] = (match l with | [] => false | c :: _ => c == 94) := by
  cases l with
  | nil => rfl
  | cons c r =>
    show List.isPrefixOf [94] (c :: r) = _
    simp [List.isPrefixOf, Bool.beq_comm]
def closesG (p : List UInt8) (k : Nat) : Int := if endG (p.drop k) < 0 then -1 else k + endG (p.drop k)
/-- the rest of the way to a ] -/
def toEnd (p : List UInt8) (k : Nat) : Int := if Lib.indexByte (p.drop k) 93 < 0 then -1 else k + Lib.indexByte (p.drop k) 93
theorem toEnd_hit (s : ByteArray) (k : Nat) (h : k < s.size) (hc : s[k] = 93) : toEnd s.data.toList k = k := by
  unfold toEnd
  rw [drop_cons s k h, hc]
  simp [Lib.indexByte]
theorem toEnd_miss (s : ByteArray) (k : Nat) (h : k < s.size) (hc : s[k] ≠ 93) : toEnd s.data.toList k = toEnd s.data.toList (k + 1) := by
  unfold toEnd
  rw [drop_cons s k h]
  have hb : (s[k] == 93) = false := by simpa using hc
  have := Lib.indexByte_ge (s.data.toList.drop (k + 1)) 93
  rw [Lib.indexByte, hb]
  simp only [Bool.false_eq_true, if_false]
  by_cases e : Lib.indexByte (s.data.toList.drop (k + 1)) 93 = -1
  · rw [e]; simp
  · have hb2 : (Lib.indexByte (s.data.toList.drop (k + 1)) 93 == -1) = false := by simpa using e
    rw [hb2]
    simp only [Bool.false_eq_true, if_false]
    rw [if_neg (by omega), if_neg (by omega)]; omega
theorem toEnd_out (s : ByteArray) (k : Nat) (h : s.size ≤ k) : toEnd s.data.toList k = -1 := by
  unfold toEnd
  rw [List.drop_eq_nil_of_le (by simpa using h)]; rfl
theorem closesG_t (s : ByteArray) (k : Nat) (h : k < s.size) (hc : s[k] = 94) : closesG s.data.toList k = toEnd s.data.toList (k + 2) := by
  unfold closesG
  have hh : Lib.hasPrefix (s.data.toList.drop k) [94] = true := by rw [drop_cons s k h, hasPrefix94, hc]; rfl
  have hl : (s.data.toList.drop k).length = s.size - k := by simp
  rw [endG_t _ hh, hl, List.drop_drop]
  have := Lib.indexByte_ge (s.data.toList.drop (k + 2)) 93
  by_cases h2 : s.size - k < 2
  · rw [if_pos h2, toEnd_out s _ (by omega)]; rfl
  · rw [if_neg h2]
    unfold toEnd
    split <;> split <;> omega
theorem closesG_f (s : ByteArray) (k : Nat) (h : Lib.hasPrefix (s.data.toList.drop k) [94] = false) : closesG s.data.toList k = toEnd s.data.toList (k + 1) := by
  unfold closesG
  have hl : (s.data.toList.drop k).length = s.size - k := by simp
  rw [endG_f _ h, hl, List.drop_drop]
  have := Lib.indexByte_ge (s.data.toList.drop (k + 1)) 93
  by_cases h2 : s.size - k < 1
  · rw [if_pos h2, toEnd_out s _ (by omega)]; rfl
  · rw [if_neg h2]
    unfold toEnd
    split <;> split <;> omega

set_option maxHeartbeats 1000000 in
theorem closes_calls (p : ByteArray) (k : Nat) (w : World) (hp : p.size ≤ 140737488351232) (hk : k ≤ p.size) :
    Calls Tryd.prog 74 #[.string p, .int .i64 k] w fun e w' => e = .returned (.int .i64 (closesG p.data.toList k)) ∧ w' = w := by
  go_enter Tryd.func74, Tryd.ntmps74
  go_upto_region 2 with (fail)
  go_cut [17] (fun c wc => c = .bool (Lib.hasPrefix (p.data.toList.drop k) [94]) ∧ wc = w)
  case first =>
    by_cases h1 : k < p.size
    · have e := nat_beq (a := p[k]) (n := 94) 94 rfl
      have e2 : Lib.hasPrefix (p.data.toList.drop k) [94] = decide (p[k] = 94) := by rw [drop_cons p k h1, hasPrefix94]; rfl
      have E2 := Lib.hid e2
      clear e2
      cases hd : decide (p[k] = 94)
      · rw [hd] at e
        have E3 := Lib.hid hd
        clear hd
        go_wp2_with fail
        go_meet
        case rel => exact ⟨by rw [E2.out, E3.out], rfl⟩
      · rw [hd] at e
        have E3 := Lib.hid hd
        clear hd
        go_wp2_with fail
        go_meet
        case rel => exact ⟨by rw [E2.out, E3.out], rfl⟩
    · have e2 : Lib.hasPrefix (p.data.toList.drop k) [94] = false := by rw [List.drop_eq_nil_of_le (by simp; omega)]; rfl
      have E2 := Lib.hid e2
      clear e2
      go_wp2_with fail
      go_meet
      case rel => exact ⟨by rw [E2.out], rfl⟩
  case rest =>
    obtain ⟨rfl, rfl⟩ := hcut
    have hst : ∃ st : Nat, closesG p.data.toList k = toEnd p.data.toList st ∧ st ≤ k + 2 ∧ k + 1 ≤ st ∧ (Lib.hasPrefix (p.data.toList.drop k) [94] = true → st = k + 2) ∧ (Lib.hasPrefix (p.data.toList.drop k) [94] = false → st = k + 1) := by
      cases h : Lib.hasPrefix (p.data.toList.drop k) [94] with
      | true =>
        have h1 : k < p.size := by
          rcases Nat.lt_or_ge k p.size with h1 | h1
          · exact h1
          · rw [List.drop_eq_nil_of_le (by simpa using h1)] at h; cases h
        have e2 : Lib.hasPrefix (p.data.toList.drop k) [94] = decide (p[k] = 94) := by rw [drop_cons p k h1, hasPrefix94]; rfl
        rw [e2, decide_eq_true_eq] at h
        exact ⟨k + 2, closesG_t p k h1 h, by omega, by omega, fun _ => rfl, (fun e => by cases e)⟩
      | false => exact ⟨k + 1, closesG_f p k h, by omega, by omega, (fun e => by cases e), fun _ => rfl⟩
    obtain ⟨st, hst1, hst2, hst3, hst4, hst5⟩ := hst
    have HS := Lib.hid hst1
    have HS4 := Lib.hid hst4
    have HS5 := Lib.hid hst5
    clear hst1 hst4 hst5
    cases hb : Lib.hasPrefix (p.data.toList.drop k) [94]
    · obtain rfl : st = k + 1 := HS5.out hb
      have HB := Lib.hid hb
      clear hb
      go_wp2_with fail
      go_loop [5] (fun i => ∃ j : Nat, i = .int .i64 j ∧ j ≤ k + 2 + p.size ∧ Hid (closesG p.data.toList k = toEnd p.data.toList j)) (fun i => p.size - (intOf i).toNat)
      case atStart => exact ⟨_, by go_num, by omega, HS.out⟩
      case round =>
        obtain ⟨j, rfl, hj, HJ⟩ := hrel
        by_cases h1 : j < p.size
        · have e := nat_beq (a := p[j]) (n := 93) 93 rfl
          cases hd : decide (p[j] = 93)
          · rw [hd] at e
            have hn : closesG p.data.toList k = toEnd p.data.toList (j + 1) := by rw [HJ.out, toEnd_miss p j h1 (of_decide_eq_false hd)]
            have HN := Lib.hid hn
            clear hd hn
            go_wp2_with fail
            go_round
            case rel => exact ⟨j + 1, by go_num, by omega, HN.out⟩
            case measure => simp [intOf]; omega
          · rw [hd] at e
            have hn : closesG p.data.toList k = j := by rw [HJ.out, toEnd_hit p j h1 (of_decide_eq_true hd)]
            have HN := Lib.hid hn
            clear hd hn
            go_wp2_with fail
            go_ret
            exact ⟨ret_int HN.out.symm, rfl⟩
        · have hn : closesG p.data.toList k = -1 := by rw [HJ.out, toEnd_out p j (by omega)]
          have HN := Lib.hid hn
          clear hn
          go_wp2_with fail
          go_ret
          exact ⟨ret_int HN.out.symm, rfl⟩
    · obtain rfl : st = k + 2 := HS4.out hb
      have HB := Lib.hid hb
      clear hb
      go_wp2_with fail
      go_loop [5] (fun i => ∃ j : Nat, i = .int .i64 j ∧ j ≤ k + 2 + p.size ∧ Hid (closesG p.data.toList k = toEnd p.data.toList j)) (fun i => p.size - (intOf i).toNat)
      case atStart => exact ⟨_, by go_num, by omega, HS.out⟩
      case round =>
        obtain ⟨j, rfl, hj, HJ⟩ := hrel
        by_cases h1 : j < p.size
        · have e := nat_beq (a := p[j]) (n := 93) 93 rfl
          cases hd : decide (p[j] = 93)
          · rw [hd] at e
            have hn : closesG p.data.toList k = toEnd p.data.toList (j + 1) := by rw [HJ.out, toEnd_miss p j h1 (of_decide_eq_false hd)]
            have HN := Lib.hid hn
            clear hd hn
            go_wp2_with fail
            go_round
            case rel => exact ⟨j + 1, by go_num, by omega, HN.out⟩
            case measure => simp [intOf]; omega
          · rw [hd] at e
            have hn : closesG p.data.toList k = j := by rw [HJ.out, toEnd_hit p j h1 (of_decide_eq_true hd)]
            have HN := Lib.hid hn
            clear hd hn
            go_wp2_with fail
            go_ret
            exact ⟨ret_int HN.out.symm, rfl⟩
        · have hn : closesG p.data.toList k = -1 := by rw [HJ.out, toEnd_out p j (by omega)]
          have HN := Lib.hid hn
          clear hn
          go_wp2_with fail
          go_ret
          exact ⟨ret_int HN.out.symm, rfl⟩
end Go.Proofs.YtolaecdopfmbgaaDoor.Gl
namespace Go.Proofs.YtolaecdopfmbgaaDoor.Gl
open Go.RowKit
theorem nil_of_size {s : ByteArray} (h : s.size = 0) : s.data.toList = [] := List.eq_nil_of_length_eq_zero (by rw [Array.length_toList]; exact h)
theorem trimPrefix_t (s : List UInt8) (h : Lib.hasPrefix s [94] = true) : Lib.trimPrefix s [94] = s.drop 1 := by unfold Lib.trimPrefix; rw [if_pos h]; rfl
theorem trimPrefix_f (s : List UInt8) (h : Lib.hasPrefix s [94] = false) : Lib.trimPrefix s [94] = s := by unfold Lib.trimPrefix; rw [if_neg (by simp [h])]
theorem u8_lt_int (a b : UInt8) : decide (a < b) = decide ((a.toNat : Int) < b.toNat) := by
  rw [decide_eq_decide, UInt8.lt_iff_toNat_lt]; omega

set_option maxHeartbeats 2000000 in
set_option maxRecDepth 100000 in
theorem in_calls (s : ByteArray) (c : Int) (w : World) (hs : s.size ≤ 140737488351232) (hc0 : 0 ≤ c) (hc1 : c < 256) :
    Calls Tryd.prog 75 #[.string s, .int .u8 c] w fun e w' => e = .returned (.tuple #[.bool ((classG s.data.toList).1 c.toNat), .bool (classG s.data.toList).2]) ∧ ∃ n, w' = w.drewN n := by
  have HC1 := Lib.hid hc1
  clear hc1
  go_enter Tryd.func75, Tryd.ntmps75
  go_upto_region 1 with (fail)
  go_cut [6] (fun v wc => v = .bool (Lib.hasPrefix s.data.toList [94]) ∧ w = wc)
  case first =>
    by_cases h1 : 0 < s.size
    · have h0 : (0 : Int) < s.size := by omega
      have e := nat_beq (a := s[0]) (n := 94) 94 rfl
      have e2 : Lib.hasPrefix s.data.toList [94] = decide (s[0] = 94) := by have := drop_cons s 0 h1; rw [List.drop_zero] at this; rw [this, hasPrefix94]; rfl
      have E2 := Lib.hid e2
      clear e2
      cases hd : decide (s[0] = 94)
      · rw [hd] at e
        have E3 := Lib.hid hd
        clear hd
        go_wp2_with fail
        go_meet
        case rel => exact ⟨by rw [E2.out, E3.out], rfl⟩
      · rw [hd] at e
        have E3 := Lib.hid hd
        clear hd
        go_wp2_with fail
        go_meet
        case rel => exact ⟨by rw [E2.out, E3.out], rfl⟩
    · have hl : s.data.toList = [] := nil_of_size (by omega)
      have e2 : Lib.hasPrefix s.data.toList [94] = false := by rw [hl]; rfl
      have E2 := Lib.hid e2
      have h0 : ¬ (0 : Int) < s.size := by omega
      clear e2 hl
      go_wp2_with fail
      go_meet
      case rel => exact ⟨by rw [E2.out], rfl⟩
  case rest =>
    obtain ⟨rfl, rfl⟩ := hcut
    iterate 2 go_step
    go_cut [0, 6] (fun v v6 wc => v = .string ⟨(Lib.trimPrefix s.data.toList [94]).toArray⟩ ∧ v6 = .bool (Lib.hasPrefix s.data.toList [94]) ∧ w = wc)
    case first =>
      cases hb : Lib.hasPrefix s.data.toList [94]
      · have e : (⟨(Lib.trimPrefix s.data.toList [94]).toArray⟩ : ByteArray) = s := by rw [trimPrefix_f _ hb, Lib.mk_data]
        have E := Lib.hid e
        clear e
        go_wp2_with fail
        go_meet
        case rel => exact ⟨by rw [E.out], by rw [hb], rfl⟩
      · have h1 : 0 < s.size := by
          rcases Nat.lt_or_ge 0 s.size with h1 | h1
          · exact h1
          · have hl : s.data.toList = [] := nil_of_size (by omega)
            rw [hl] at hb; cases hb
        have e : (⟨(Lib.trimPrefix s.data.toList [94]).toArray⟩ : ByteArray) = s.extract 1 s.size := by
          rw [trimPrefix_t _ hb, Lib.extract_eq, List.take_of_length_le (by simp)]
        have E := Lib.hid e
        have h0 : (1 : Int) ≤ s.size := by omega
        clear e
        go_wp2_with fail
        go_meet
        case rel => exact ⟨by rw [E.out], by rw [hb], rfl⟩
    case rest =>
      obtain ⟨rfl, rfl, rfl⟩ := hcut
      have hts : (⟨(Lib.trimPrefix s.data.toList [94]).toArray⟩ : ByteArray).size ≤ s.size := Lib.trimPrefix_le _ _
      have hG : classG s.data.toList = match classSet (⟨(Lib.trimPrefix s.data.toList [94]).toArray⟩ : ByteArray).data.toList noBytes with
        | none => (noBytes, false)
        | some f => (fun c => f c != Lib.hasPrefix s.data.toList [94], !(⟨(Lib.trimPrefix s.data.toList [94]).toArray⟩ : ByteArray).data.toList.isEmpty) := rfl
      generalize (⟨(Lib.trimPrefix s.data.toList [94]).toArray⟩ : ByteArray) = t at *
      generalize Lib.hasPrefix s.data.toList [94] = b at *
      have HG := Lib.hid hG
      clear hG
      go_wp2_with fail
      go_loopw [7, 8] (fun v7 v8 wr => ∃ (k : Nat) (f : Nat → Bool), k ≤ t.size ∧ v7 = .bool (f c.toNat) ∧ v8 = .int .i64 k ∧ Hid (classSet (t.data.toList.drop k) f = classSet t.data.toList noBytes) ∧ ∃ n, wr = w.drewN n) (fun _ i _ => t.size - (intOf i).toNat)
      case atStart => exact ⟨0, noBytes, by omega, rfl, rfl, rfl, 0, rfl⟩
      case round =>
        obtain ⟨k, f, hk, rfl, rfl, HS, n, rfl⟩ := hrel
        by_cases hlt : k < t.size
        · have hk1 := drop_cons t k hlt
          have HK1 := Lib.hid hk1
          clear hk1
          have ha := t[k].toNat_lt
          have HA := Lib.hid ha
          clear ha
          by_cases h3 : k + 2 < t.size
          · cases h4 : ((t[k + 1].toNat : Int) == 45)
            · have hstep : classSet (t.data.toList.drop (k + 1)) (addRange f t[k].toNat t[k].toNat) = classSet t.data.toList noBytes := by
                rw [← HS.out, HK1.out, classSet_one]
                intro b' r' e
                have e45 : t[k + 1] ≠ 45 := u8_ne (n := 45) 45 (by rw [h4]; simp) rfl
                rw [drop_cons t (k + 1) (by omega)] at e
                exact e45 (List.cons.inj e).1
              have HST := Lib.hid hstep
              clear hstep
              cases hf : f c.toNat
              · have hadd : addRange f t[k].toNat t[k].toNat c.toNat = ((t[k].toNat : Int) == c) := by
                  rw [Bool.eq_iff_iff]; simp [addRange, hf]; omega
                have HADD := Lib.hid hadd
                clear hf hadd
                go_wp2_with fail
                all_goals
                  go_roundw
                  case rel => exact ⟨k + 1, addRange f t[k].toNat t[k].toNat, by omega, by rw [HADD.out], by go_num, HST.out, _, rfl⟩
                  case measure => simp [intOf]; omega
              · have hadd : addRange f t[k].toNat t[k].toNat c.toNat = true := by simp [addRange, hf]
                have HADD := Lib.hid hadd
                clear hadd hf
                go_wp2_with fail
                go_roundw
                case rel => exact ⟨k + 1, addRange f t[k].toNat t[k].toNat, by omega, by rw [HADD.out], by go_num, HST.out, _, rfl⟩
                case measure => simp [intOf]; omega
            · have e45 : t[k + 1] = 45 := u8_eq 45 h4 rfl
              have hstep : classSet t.data.toList noBytes = if t[k + 2] < t[k] then none else classSet (t.data.toList.drop (k + 3)) (addRange f t[k].toNat t[k + 2].toNat) := by
                rw [← HS.out, HK1.out, drop_cons t (k + 1) (by omega), drop_cons t (k + 2) (by omega), e45, classSet]
              have HST := Lib.hid hstep
              clear hstep e45
              go_wp2_with fail
              have y2 : (0 : Int) ≤ k + 2 := by omega
              have y3 : ((k : Int) + 2).toNat = k + 2 := by omega
              have y4 : (k : Int) + 2 < t.size := by omega
              have y1 : IntKind.i64.wrap ((k : Int) + 2) = k + 2 := IntWalk.i64_in _ (by omega)
              go_quiet (fail)
              try clear y4
              try clear y1
              by_cases hlo : t[k + 2] < t[k]
              · have hlo' : (t[k + 2].toNat : Int) < t[k].toNat := by have := UInt8.lt_iff_toNat_lt.1 hlo; omega
                have hn : classG s.data.toList = (noBytes, false) := by rw [HG.out, HST.out, if_pos hlo]
                have HN := Lib.hid hn
                clear hn hlo
                go_wp2_with fail
                go_ret2
                exact ⟨by rw [HN.out]; rfl, n + nq, by rw [World.drewN_drewN]⟩
              · have hle : t[k].toNat ≤ t[k + 2].toNat := UInt8.le_iff_toNat_le.1 (UInt8.not_lt.1 hlo)
                have hlo' : ¬ (t[k + 2].toNat : Int) < t[k].toNat := by omega
                have hst : classSet (t.data.toList.drop (k + 3)) (addRange f t[k].toNat t[k + 2].toNat) = classSet t.data.toList noBytes := by rw [HST.out, if_neg hlo]
                have HST2 := Lib.hid hst
                clear hst hlo HST hle
                cases hf : f c.toNat
                · by_cases p1 : (t[k].toNat : Int) ≤ c
                  · by_cases p2 : c ≤ (t[k + 2].toNat : Int)
                    · have hadd : addRange f t[k].toNat t[k + 2].toNat c.toNat = true := by simp [addRange, hf]; omega
                      have HADD := Lib.hid hadd
                      clear hadd hf
                      go_wp2_with fail
                      go_roundw
                      case rel => exact ⟨k + 3, addRange f t[k].toNat t[k + 2].toNat, by omega, by rw [HADD.out], by go_num, HST2.out, _, rfl⟩
                      case measure => simp [intOf]; omega
                    · have hadd : addRange f t[k].toNat t[k + 2].toNat c.toNat = false := by simp [addRange, hf]; omega
                      have HADD := Lib.hid hadd
                      clear hadd hf
                      go_wp2_with fail
                      go_roundw
                      case rel => exact ⟨k + 3, addRange f t[k].toNat t[k + 2].toNat, by omega, by rw [HADD.out], by go_num, HST2.out, _, rfl⟩
                      case measure => simp [intOf]; omega
                  · have hadd : addRange f t[k].toNat t[k + 2].toNat c.toNat = false := by simp [addRange, hf]; omega
                    have HADD := Lib.hid hadd
                    clear hadd hf
                    go_wp2_with fail
                    go_roundw
                    case rel => exact ⟨k + 3, addRange f t[k].toNat t[k + 2].toNat, by omega, by rw [HADD.out], by go_num, HST2.out, _, rfl⟩
                    case measure => simp [intOf]; omega
                · have hadd : addRange f t[k].toNat t[k + 2].toNat c.toNat = true := by simp [addRange, hf]
                  have HADD := Lib.hid hadd
                  clear hadd hf
                  go_wp2_with fail
                  go_roundw
                  case rel => exact ⟨k + 3, addRange f t[k].toNat t[k + 2].toNat, by omega, by rw [HADD.out], by go_num, HST2.out, _, rfl⟩
                  case measure => simp [intOf]; omega
          · have hstep : classSet (t.data.toList.drop (k + 1)) (addRange f t[k].toNat t[k].toNat) = classSet t.data.toList noBytes := by
              rw [← HS.out, HK1.out, classSet_one]
              intro b' r' e
              have := congrArg List.length e
              simp at this
              omega
            have HST := Lib.hid hstep
            clear hstep
            cases hf : f c.toNat
            · have hadd : addRange f t[k].toNat t[k].toNat c.toNat = ((t[k].toNat : Int) == c) := by
                rw [Bool.eq_iff_iff]; simp [addRange, hf]; omega
              have HADD := Lib.hid hadd
              clear hf hadd
              go_wp2_with fail
              all_goals
                go_roundw
                case rel => exact ⟨k + 1, addRange f t[k].toNat t[k].toNat, by omega, by rw [HADD.out], by go_num, HST.out, _, rfl⟩
                case measure => simp [intOf]; omega
            · have hadd : addRange f t[k].toNat t[k].toNat c.toNat = true := by simp [addRange, hf]
              have HADD := Lib.hid hadd
              clear hadd hf
              go_wp2_with fail
              go_roundw
              case rel => exact ⟨k + 1, addRange f t[k].toNat t[k].toNat, by omega, by rw [HADD.out], by go_num, HST.out, _, rfl⟩
              case measure => simp [intOf]; omega
        · have hn : classG s.data.toList = (fun c => f c != b, !t.data.toList.isEmpty) := by
            have e := HS.out
            rw [List.drop_eq_nil_of_le (by simp; omega)] at e
            rw [HG.out, ← e]
            rfl
          have HN := Lib.hid hn
          have hne : decide (0 < t.size) = !t.data.toList.isEmpty := by
            rw [Bool.eq_iff_iff, decide_eq_true_eq, Bool.not_eq_true', List.isEmpty_eq_false_iff, ← List.length_pos_iff, Array.length_toList]; rfl
          have HNE := Lib.hid hne
          clear hn hne
          go_wp2
          go_ret2
          refine ⟨?_, _, rfl⟩
          rw [HN.out]
          show Ending.returned (.tuple #[.bool (!(f c.toNat == b)), .bool (decide (0 < t.size))]) = Ending.returned (.tuple #[.bool (f c.toNat != b), .bool (!t.data.toList.isEmpty)])
          rw [HNE.out]; rfl
end Go.Proofs.YtolaecdopfmbgaaDoor.Gl
