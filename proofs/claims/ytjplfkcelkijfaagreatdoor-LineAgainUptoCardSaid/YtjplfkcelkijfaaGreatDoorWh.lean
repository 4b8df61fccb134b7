/- name.Tag: is a text a tag's name? Condition: a text of at most 140737488351232 bytes. -/
import Derived.Test.YtjplfkcelkijfaaGreatDoorWg
namespace Go.Proofs.YtjplfkcelkijfaaGreatDoor
open Go.RowKit

set_option maxHeartbeats 1000000 in
set_option maxRecDepth 100000 in
theorem plain_calls (c : UInt8) (w : World) : Calls Tryz.prog 89 #[.int .u8 c.toNat] w fun e w' => e = .returned (.bool (tagByte c)) ∧ w' = w := by
  have hc := c.toNat_lt
  have e : tagByte c = (decide ((97 : Int) ≤ c.toNat) && decide ((c.toNat : Int) ≤ 122) || (decide ((48 : Int) ≤ c.toNat) && decide ((c.toNat : Int) ≤ 57))) := by
    unfold tagByte
    rw [Bool.eq_iff_iff]
    simp only [Bool.or_eq_true, Bool.and_eq_true, decide_eq_true_eq]
    omega
  rw [e]
  clear e
  have hn : (0 : Int) ≤ c.toNat ∧ (c.toNat : Int) < 256 := by omega
  generalize (c.toNat : Int) = n at *
  by_cases h1 : 97 ≤ n
  · by_cases h2 : n ≤ 122
    · go_enter Tryz.func89, Tryz.ntmps89
      go_wp2_with fail
      go_ret
      exact ⟨by first | (simp [h1, h2]; done) | (simp [h1, h2]; omega), rfl⟩
    · have h3 : 48 ≤ n := by omega
      have h4 : ¬ n ≤ 57 := by omega
      go_enter Tryz.func89, Tryz.ntmps89
      go_wp2_with fail
      go_ret
      exact ⟨by first | (simp [h2, h4]; done) | (simp [h2, h4]; omega), rfl⟩
  · by_cases h3 : 48 ≤ n
    · by_cases h4 : n ≤ 57
      · go_enter Tryz.func89, Tryz.ntmps89
        go_wp2_with fail
        go_ret
        exact ⟨by first | (simp [h1, h3, h4]; done) | (simp [h1, h3, h4]; omega), rfl⟩
      · go_enter Tryz.func89, Tryz.ntmps89
        go_wp2_with fail
        go_ret
        exact ⟨by first | (simp [h1, h4]; done) | (simp [h1, h4]; omega), rfl⟩
    · go_enter Tryz.func89, Tryz.ntmps89
      go_wp2_with fail
      go_ret
      exact ⟨by first | (simp [h1, h3]; done) | (simp [h1, h3]; omega), rfl⟩

theorem tag_empty {s : List UInt8} (h : s.length = 0) : tagOk s = false := by rw [List.eq_nil_of_length_eq_zero h]; rfl
theorem tag_long {s : List UInt8} (h : 32 < s.length) : tagOk s = false := by
  unfold tagOk
  split
  · rfl
  · rw [decide_eq_false (by omega), Bool.and_false]
theorem tag_first {s : List UInt8} {c : UInt8} (h : s[0]? = some c) (hc : tagByte c = false) : tagOk s = false := by
  cases s with
  | nil => rfl
  | cons d r =>
    have e : d = c := by simpa using h
    subst e
    show (tagByte d && (d :: r).all tagMore && decide ((d :: r).length ≤ 32)) = _
    rw [hc]; rfl
theorem tag_rest {s : List UInt8} {c : UInt8} (h : s[0]? = some c) (hc : tagByte c = true) (hl : s.length ≤ 32) : tagOk s = s.all tagMore := by
  cases s with
  | nil => cases h
  | cons d r =>
    have e : d = c := by simpa using h
    subst e
    show (tagByte d && (d :: r).all tagMore && decide ((d :: r).length ≤ 32)) = _
    rw [hc, decide_eq_true hl, Bool.true_and, Bool.and_true]
theorem all_no {s : List UInt8} {k : Nat} {c : UInt8} (h : s[k]? = some c) (hc : tagMore c = false) : s.all tagMore = false := by
  rw [Bool.eq_false_iff]
  intro ha
  rw [List.all_eq_true.1 ha c (List.mem_of_getElem? h)] at hc
  cases hc
theorem isEmpty_toList (s : ByteArray) : s.toList.isEmpty = decide (s.size = 0) := by
  rw [ByteArray.toList_eq, Bool.eq_iff_iff, decide_eq_true_eq, List.isEmpty_iff]
  constructor
  · intro h; have := congrArg List.length h; simpa using this
  · intro h; exact List.eq_nil_of_length_eq_zero (by simpa using h)
theorem byteAt (s : ByteArray) (k : Nat) (h : k < s.size) : s.data.toList[k]? = some (s[k]'h) := by
  rw [List.getElem?_eq_getElem (by simpa using h)]; rfl

set_option maxHeartbeats 4000000 in
set_option maxRecDepth 100000 in
theorem tag_calls (s : ByteArray) (w : World) (hs : s.size ≤ 140737488351232) : Calls Tryz.prog 68 #[.string s] w fun e w' => e = .returned (.bool (tagOk s.data.toList)) ∧ w' = w := by
  have hs' : (s.size : Int) ≤ 140737488351232 := by omega
  have HPL := Lib.hid plain_calls
  have hE := isEmpty_toList s
  have hlen : s.data.toList.length = s.size := by simp
  by_cases h0 : s.size = 0
  · rw [decide_eq_true h0] at hE
    have HT := Lib.hid (tag_empty (hlen.trans h0))
    clear hlen
    go_enter Tryz.func68, Tryz.ntmps68
    go_wp2_with fail
    go_ret
    exact ⟨by rw [HT.out]; rfl, rfl⟩
  · rw [decide_eq_false h0] at hE
    have hpos : (0 : Int) < s.size := by omega
    by_cases h1 : 32 < s.size
    · have HT := Lib.hid (tag_long (hlen ▸ h1))
      have h1' : (32 : Int) < s.size := by omega
      clear hlen h1
      go_enter Tryz.func68, Tryz.ntmps68
      go_wp2_with fail
      go_ret
      exact ⟨by rw [HT.out]; rfl, rfl⟩
    · have h1' : (s.size : Int) ≤ 32 := by omega
      have hp : 0 < s.size := by omega
      have hb0 := byteAt s 0 hp
      cases hf : tagByte (s[0]'hp) with
      | false =>
        have HT := Lib.hid (tag_first hb0 hf)
        have HF := Lib.hid hf
        clear hlen h1 hb0 hf
        go_enter Tryz.func68, Tryz.ntmps68
        go_wp2_with (go_at_call 89; refine (HPL.out (s[0]'hp) _).mono ?_; rw [HF.out]; rintro e w2 ⟨rfl, rfl⟩)
        go_ret
        exact ⟨by rw [HT.out]; rfl, rfl⟩
      | true =>
        have HT := Lib.hid (tag_rest hb0 hf (by omega))
        have HF := Lib.hid hf
        clear hlen h1 hb0 hf
        go_enter Tryz.func68, Tryz.ntmps68
        go_wp2_with (go_at_call 89; refine (HPL.out (s[0]'hp) _).mono ?_; rw [HF.out]; rintro e w2 ⟨rfl, rfl⟩)
        go_loopw [20] (fun c wr => ∃ k : Nat, c = .int .i64 k ∧ (k : Int) ≤ s.size ∧ Hid ((s.data.toList.take k).all tagMore = true) ∧ wr = w2) (fun c _ => s.size - (intOf c).toNat)
        case atStart => exact ⟨0, rfl, by omega, by simp [Hid], rfl⟩
        case round =>
          obtain ⟨k, rfl, hk, hall, rfl⟩ := hrel
          by_cases hlt : (k : Int) < s.size
          · have hks : k < s.size := by omega
            have hbk := byteAt s k hks
            have hsn : s.data.toList.take (k + 1) = s.data.toList.take k ++ [s[k]'hks] := by rw [List.take_add_one, hbk]; rfl
            have hnx : tagMore (s[k]'hks) = true → Hid ((s.data.toList.take (k + 1)).all tagMore = true) := fun h => by unfold Hid; rw [hsn, List.all_append, hall.out]; simp [h]
            have hbad : tagMore (s[k]'hks) = false → Hid (s.data.toList.all tagMore = false) := fun h => all_no hbk h
            cases hq : tagByte (s[k]'hks) with
            | true =>
              have HN := hnx (by unfold tagMore; rw [hq]; rfl)
              have HQ := Lib.hid hq
              clear hq hbk hsn hnx hbad
              go_wp2_with (go_at_call 89; refine (HPL.out (s[k]'hks) _).mono ?_; rw [HQ.out]; rintro e w3 ⟨rfl, rfl⟩)
              go_roundw
              case rel => exact ⟨k + 1, by go_num, by omega, HN, by first | trivial | rfl⟩
              case measure => simp [intOf]; omega
            | false =>
              have HQ := Lib.hid hq
              by_cases e1 : (s[k]'hks).toNat = 46
              · have HN := hnx (by unfold tagMore; rw [decide_eq_true e1]; simp)
                have f1 : (((s[k]'hks).toNat : Int) != 46) = false := by rw [e1]; rfl
                clear e1
                clear hq hbk hsn hnx hbad
                go_wp2_with (go_at_call 89; refine (HPL.out (s[k]'hks) _).mono ?_; rw [HQ.out]; rintro e w3 ⟨rfl, rfl⟩)
                go_roundw
                case rel => exact ⟨k + 1, by go_num, by omega, HN, by first | trivial | rfl⟩
                case measure => simp [intOf]; omega
              · have f1 : (((s[k]'hks).toNat : Int) != 46) = true := by simp; omega
                have E1 := Lib.hid e1
                by_cases e2 : (s[k]'hks).toNat = 95
                · have HN := hnx (by unfold tagMore; rw [decide_eq_true e2]; simp)
                  have f2 : (((s[k]'hks).toNat : Int) != 95) = false := by rw [e2]; rfl
                  clear e2
                  clear hq hbk hsn hnx hbad
                  go_wp2_with (go_at_call 89; refine (HPL.out (s[k]'hks) _).mono ?_; rw [HQ.out]; rintro e w3 ⟨rfl, rfl⟩)
                  go_roundw
                  case rel => exact ⟨k + 1, by go_num, by omega, HN, by first | trivial | rfl⟩
                  case measure => simp [intOf]; omega
                · have f2 : (((s[k]'hks).toNat : Int) != 95) = true := by simp; omega
                  by_cases e3 : (s[k]'hks).toNat = 45
                  · have HN := hnx (by unfold tagMore; rw [decide_eq_true e3]; simp)
                    have f3 : (((s[k]'hks).toNat : Int) != 45) = false := by rw [e3]; rfl
                    clear e3
                    clear hq hbk hsn hnx hbad
                    go_wp2_with (go_at_call 89; refine (HPL.out (s[k]'hks) _).mono ?_; rw [HQ.out]; rintro e w3 ⟨rfl, rfl⟩)
                    go_roundw
                    case rel => exact ⟨k + 1, by go_num, by omega, HN, by first | trivial | rfl⟩
                    case measure => simp [intOf]; omega
                  · have f3 : (((s[k]'hks).toNat : Int) != 45) = true := by simp; omega
                    have HB := hbad (by unfold tagMore; rw [hq, decide_eq_false e1, decide_eq_false e2, decide_eq_false e3]; rfl)
                    clear hq hbk hsn hnx hbad
                    go_wp2_with (go_at_call 89; refine (HPL.out (s[k]'hks) _).mono ?_; rw [HQ.out]; rintro e w3 ⟨rfl, rfl⟩)
                    go_ret
                    exact ⟨by rw [HT.out, HB.out]; rfl, rfl⟩
          · have hke : k = s.data.toList.length := by simp; omega
            have HA : Hid (s.data.toList.all tagMore = true) := by
              have := hall.out
              rwa [hke, List.take_length] at this
            clear hke hall
            go_wp2_with fail
            go_ret
            exact ⟨by rw [HT.out, HA.out]; rfl, rfl⟩
end Go.Proofs.YtjplfkcelkijfaaGreatDoor
