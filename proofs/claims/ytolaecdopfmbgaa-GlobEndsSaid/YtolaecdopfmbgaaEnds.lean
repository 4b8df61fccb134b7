/- The law GlobEnds of stillagelaw50 returns true, for strings of at most 140737488351232 bytes. -/
import Derived.Lib.SmallJoins
import Derived.Test.YtolaecdopfmbgaaY
namespace Go.Proofs.Ytolaecdopfmbgaa
open Go.RowKit

def plainL (l : List UInt8) : Bool := l.all isPlain
theorem all_take_succ {l : List UInt8} {f : UInt8 → Bool} {k : Nat} {c : UInt8} (h : l[k]? = some c) : (l.take (k + 1)).all f = ((l.take k).all f && f c) := by
  obtain ⟨hk, e⟩ := List.getElem?_eq_some_iff.1 h
  rw [List.take_succ_eq_append_getElem hk, List.all_append, e]; simp
theorem all_of_take_false {l : List UInt8} {f : UInt8 → Bool} {k : Nat} (h : (l.take k).all f = false) : l.all f = false := by
  rw [← List.take_append_drop k l, List.all_append, h]; rfl

set_option maxHeartbeats 1000000 in
theorem plain_calls (s : ByteArray) (w : World) (hs : s.size ≤ 140737488351232) :
    Calls Try.prog 11 #[.string s] w fun e w' => e = .returned (.bool (plainL s.data.toList && decide ((s.size : Int) ≤ 60))) ∧ w' = w := by
  have HL : Hid (s.data.toList.length = s.size) := by unfold Hid; simp
  go_enter Try.func11, Try.ntmps11
  go_wp2_with fail
  go_loop [3] (fun i => ∃ k : Nat, i = .int .i64 k ∧ k ≤ s.size ∧ Hid ((s.data.toList.take k).all isPlain = true)) (fun i => s.size - (intOf i).toNat)
  case atStart => exact ⟨0, rfl, by omega, rfl⟩
  case round =>
    obtain ⟨k, rfl, hk, HK⟩ := hrel
    by_cases h1 : k < s.size
    · have hc : s.data.toList[k]? = some s[k] := by rw [List.getElem?_eq_getElem (by rw [HL.out]; exact h1)]; rfl
      have hst := all_take_succ (f := isPlain) hc
      rw [HK.out, Bool.true_and] at hst
      have q42 := nat_beq (a := s[k]) (n := 42) 42 rfl
      have q63 := nat_beq (a := s[k]) (n := 63) 63 rfl
      have q91 := nat_beq (a := s[k]) (n := 91) 91 rfl
      have hp : isPlain s[k] = !(decide (s[k] = 42) || decide (s[k] = 63) || decide (s[k] = 91)) := by
        unfold isPlain; rw [Bool.eq_iff_iff]; simp
      rw [hp] at hst
      generalize decide (s[k] = 42) = d1 at *
      generalize decide (s[k] = 63) = d2 at *
      generalize decide (s[k] = 91) = d3 at *
      have HST := Lib.hid hst
      clear hst hp hc
      cases hd : d1 || d2 || d3
      · obtain ⟨rfl, rfl, rfl⟩ : d1 = false ∧ d2 = false ∧ d3 = false := by cases d1 <;> cases d2 <;> cases d3 <;> simp_all
        clear hd
        go_wp2
        go_round
        case rel => exact ⟨k + 1, by go_num, by omega, HST.out⟩
        case measure => simp [intOf]; omega
      · have hfin : plainL s.data.toList = false := all_of_take_false (k := k + 1) (by rw [HST.out, hd]; rfl)
        have HF := Lib.hid hfin
        clear hfin
        cases d1
        · cases d2
          · obtain rfl : d3 = true := by simpa using hd
            clear hd
            go_wp2
            go_ret
            exact ⟨ret_bool (by rw [HF.out]; rfl), rfl⟩
          · clear hd
            go_wp2
            go_ret
            exact ⟨ret_bool (by rw [HF.out]; rfl), rfl⟩
        · clear hd
          go_wp2
          go_ret
          exact ⟨ret_bool (by rw [HF.out]; rfl), rfl⟩
    · obtain rfl : k = s.size := by omega
      have hall : plainL s.data.toList = true := by have := HK.out; rwa [List.take_of_length_le (by rw [HL.out]; exact Nat.le_refl _)] at this
      have HA := Lib.hid hall
      clear hall
      go_wp2
      go_ret
      exact ⟨ret_bool (by rw [HA.out]; rfl), rfl⟩

set_option maxHeartbeats 2000000 in
set_option maxRecDepth 100000 in
theorem globEnds_calls (a b s : ByteArray) (w : World) (ha : a.size ≤ 140737488351232) (hb : b.size ≤ 140737488351232) (hs : s.size ≤ 140737488351232) :
    Calls Try.prog 4 #[.string a, .string b, .string s] w fun e w' => e = .returned (.bool true) ∧ Below w.heap.size w w' := by
  have hpa := fun W => plain_calls a W ha
  have hpb := fun W => plain_calls b W hb
  cases hA : (plainL a.data.toList && decide ((a.size : Int) ≤ 60))
  · rw [hA] at hpa
    have HPA := Lib.hid hpa
    clear hpa hpb hA
    go_enter Try.func4, Try.ntmps4
    go_wp2_with (first | (go_at_call 11; refine (HPA.out _).mono ?_; rintro e w' ⟨rfl, rfl⟩) | (go_at_call 10; refine (lives_calls _).mono ?_; rintro e w5 ⟨rfl, hb5⟩))
    go_ret
    exact ⟨rfl, hb5⟩
  · rw [hA] at hpa
    have HPA := Lib.hid hpa
    cases hB : (plainL b.data.toList && decide ((b.size : Int) ≤ 60))
    · rw [hB] at hpb
      have HPB := Lib.hid hpb
      clear hpa hpb hA hB
      go_enter Try.func4, Try.ntmps4
      go_wp2_with fail
      refine (HPA.out _).mono ?_
      rintro e w' ⟨rfl, rfl⟩
      go_wp2_with fail
      refine (HPB.out _).mono ?_
      rintro e w' ⟨rfl, rfl⟩
      go_wp2_with (go_at_call 10; refine (lives_calls _).mono ?_; rintro e w5 ⟨rfl, hb5⟩)
      go_ret
      exact ⟨rfl, hb5⟩
    · rw [hB] at hpb
      have HPB := Lib.hid hpb
      clear hpa hpb
      rw [Bool.and_eq_true, decide_eq_true_eq] at hA hB
      obtain ⟨hA1, hA2⟩ := hA
      obtain ⟨hB1, hB2⟩ := hB
      by_cases hl : ((a.size : Int) + b.size) > 60
      · go_enter Try.func4, Try.ntmps4
        go_wp2_with fail
        refine (HPA.out _).mono ?_
        rintro e w' ⟨rfl, rfl⟩
        go_wp2_with fail
        refine (HPB.out _).mono ?_
        rintro e w' ⟨rfl, rfl⟩
        go_wp2_with (go_at_call 10; refine (lives_calls _).mono ?_; rintro e w5 ⟨rfl, hb5⟩)
        go_ret
        exact ⟨rfl, hb5⟩
      · go_enter Try.func4, Try.ntmps4
        go_wp2_with fail
        refine (HPA.out _).mono ?_
        rintro e w' ⟨rfl, rfl⟩
        go_wp2_with fail
        refine (HPB.out _).mono ?_
        rintro e w' ⟨rfl, rfl⟩
        have hla : a.data.toList.length = a.size := by simp
        have hlb : b.data.toList.length = b.size := by simp
        have hls : s.data.toList.length = s.size := by simp
        have k1 : ∀ W, Calls Try.prog 8 #[.string a, .string s] W fun e w' => e = .returned (.bool (a.toList == s.toList)) ∧ Below W.heap.size W w' := fun W => by
          have := match8_calls a s W ha (by omega)
          rwa [matchG_plain _ _ hA1 (by omega), ← Lib.toList_data, ← Lib.toList_data] at this
        have k2 : ∀ W, Calls Try.prog 8 #[.string ⟨#[42]⟩, .string s] W fun e w' => e = .returned (.bool true) ∧ Below W.heap.size W w' := fun W => by
          have := match8_calls ⟨#[42]⟩ s W (by decide) (by omega)
          rwa [show (⟨#[42]⟩ : ByteArray).data.toList = [42] from rfl, matchG_star] at this
        have hcat : (a ++ ⟨#[42]⟩ ++ b).data.toList = a.data.toList ++ 42 :: b.data.toList := by
          rw [Joins.data_append, Joins.data_append]; simp
        have hcs : (a ++ ⟨#[42]⟩ ++ b).size ≤ 140737488351232 := by
          rw [Lib.size_eq, hcat, List.length_append, List.length_cons]; omega
        have hcat2 : (a ++ s ++ b).data.toList = a.data.toList ++ s.data.toList ++ b.data.toList := by
          rw [Joins.data_append, Joins.data_append]
        have hcs2 : (a ++ s ++ b).size ≤ 140737488355328 := by
          rw [Lib.size_eq, hcat2, List.length_append, List.length_append]; omega
        have k3 : ∀ W, Calls Try.prog 8 #[.string (a ++ ⟨#[42]⟩ ++ b), .string s] W fun e w' => e = .returned (.bool (decide ((a.size : Int) + b.size ≤ s.size) && ((s.extract 0 a.size).toList == a.toList && (s.extract (s.size - b.size) s.size).toList == b.toList))) ∧ Below W.heap.size W w' := fun W => by
          have := match8_calls (a ++ ⟨#[42]⟩ ++ b) s W hcs (by omega)
          rw [hcat, matchG_between _ _ _ hA1 hB1 (by omega)] at this
          have e1 : (s.extract 0 a.size).toList = s.data.toList.take a.data.toList.length := by rw [Lib.extract_toList, hla]; simp
          have e2 : (s.extract (s.size - b.size) s.size).toList = s.data.toList.drop (s.data.toList.length - b.data.toList.length) := by
            rw [Lib.extract_toList, hlb, hls, List.take_of_length_le (by rw [List.length_drop, hls]; omega)]
          rw [e1, e2, Lib.toList_data, Lib.toList_data, show decide ((a.size : Int) + b.size ≤ s.size) = decide (a.data.toList.length + b.data.toList.length ≤ s.data.toList.length) by rw [hla, hlb, hls, decide_eq_decide]; omega]
          exact this
        have k4 : ∀ W, Calls Try.prog 8 #[.string (a ++ ⟨#[42]⟩ ++ b), .string (a ++ s ++ b)] W fun e w' => e = .returned (.bool true) ∧ Below W.heap.size W w' := fun W => by
          have := match8_calls (a ++ ⟨#[42]⟩ ++ b) (a ++ s ++ b) W hcs hcs2
          rwa [hcat, hcat2, matchG_itself _ _ _ hA1 hB1 (by omega)] at this
        have K1 := Lib.hid k1
        have K2 := Lib.hid k2
        have K3 := Lib.hid k3
        have K4 := Lib.hid k4
        clear k1 k2 k3 k4 hcat hcs hcat2 hcs2 hla hlb hls
        go_upto_region 4 with (fail)
        go_cut [8] (fun v wc => v = .bool (decide ((a.size : Int) + b.size ≤ s.size) && ((s.extract 0 a.size).toList == a.toList && (s.extract (s.size - b.size) s.size).toList == b.toList)) ∧ w' = wc)
        case first =>
          by_cases h1 : (a.size : Int) + b.size ≤ s.size
          · cases h2 : ((s.extract 0 a.size).toList == a.toList)
            · go_wp2_with fail
              go_meet
              case rel => exact ⟨by rw [h2, Bool.false_and, Bool.and_false], rfl⟩
            · go_wp2_with fail
              go_meet
              case rel => exact ⟨by rw [h2, Bool.true_and, decide_eq_true h1, Bool.true_and], rfl⟩
          · go_wp2_with fail
            go_meet
            case rel => exact ⟨by rw [decide_eq_false (by omega)]; rfl, rfl⟩
        case rest =>
          obtain ⟨rfl, rfl⟩ := hcut
          generalize (decide ((a.size : Int) + b.size ≤ s.size) && ((s.extract 0 a.size).toList == a.toList && (s.extract (s.size - b.size) s.size).toList == b.toList)) = E at *
          generalize hE1 : (a.toList == s.toList) = E1 at *
          have HE1 := Lib.hid hE1
          go_wp2_with fail
          refine (K1.out _).mono ?_
          rintro e w1 ⟨rfl, hb1⟩
          go_wp2_with fail
          refine (K2.out _).mono ?_
          rintro e w2 ⟨rfl, hb2⟩
          go_wp2_with fail
          refine (K3.out _).mono ?_
          rintro e w3 ⟨rfl, hb3⟩
          go_wp2_with fail
          refine (K4.out _).mono ?_
          rintro e w4 ⟨rfl, hb4⟩
          go_wp2_with (go_at_call 10; refine (lives_calls _).mono ?_; rintro e w5 ⟨rfl, hb5⟩)
          go_ret
          exact ⟨rfl, hb1.trans ((hb2.trans ((hb3.trans ((hb4.trans (hb5.mono hb4.size)).mono hb3.size)).mono hb2.size)).mono hb1.size)⟩
end Go.Proofs.Ytolaecdopfmbgaa
