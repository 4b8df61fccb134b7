/- The reference's Tag: is a text a tag's name? Condition: a text of at most 8388608 bytes. -/
import Derived.Test.YtjplfkcelkijfaaGreatDoorWq
namespace Go.Proofs.YtjplfkcelkijfaaGreatDoor
open Go.RowKit

/-- is a byte among some? -/
def inL (c : UInt8) (l : List UInt8) : Bool := l.contains c
theorem getElem_list (s : ByteArray) (k : Nat) (h : k < s.size) : s.data.toList[k]? = some s[k] := by
  rw [List.getElem?_eq_getElem (by simpa using h)]; rfl
set_option maxHeartbeats 2000000 in
set_option maxRecDepth 100000 in
theorem one_calls (c : UInt8) (s : ByteArray) (w : World) (hs : s.size ≤ 8388608) :
    Calls Tryz.prog 43 #[.int .u8 c.toNat, .string s] w fun e w' => e = .returned (.bool (inL c s.data.toList)) ∧ w = w' := by
  have hs' : (s.size : Int) ≤ 8388608 := by omega
  have hc0 := c.toNat_lt
  have hcc : (c.toNat : Int) < 256 := by omega
  clear hc0 hs
  go_enter Tryz.func43, Tryz.ntmps43
  go_wp2_with fail
  go_loop [5] (fun i => ∃ k : Nat, i = .int .i64 k ∧ (k : Int) ≤ s.size ∧ Hid (∀ j, j < k → s.data.toList[j]? ≠ some c)) (fun i => s.size - (intOf i).toNat)
  case atStart => exact ⟨0, rfl, by omega, fun j hj => by omega⟩
  case round =>
    obtain ⟨k, rfl, hk, hno⟩ := hrel
    by_cases hlt : (k : Int) < s.size
    · have hk' : k < s.size := by omega
      have hg := getElem_list s k hk'
      by_cases he : s[k] = c
      · have hq : ((s[k].toNat : Int) == (c.toNat : Int)) = true := by rw [he]; simp
        have HIN : Hid (inL c s.data.toList = true) := by
          show s.data.toList.contains c = true
          rw [List.contains_iff_mem, ← he]; exact List.mem_of_getElem? hg
        clear he hg hno
        go_wp2_with fail
        go_ret
        exact ⟨by rw [HIN.out]; rfl, rfl⟩
      · have hq : ((s[k].toNat : Int) == (c.toNat : Int)) = false := by
          rw [beq_eq_false_iff_ne]
          intro e
          exact he (UInt8.toNat_inj.1 (by omega))
        have HN : Hid (∀ j, j < k + 1 → s.data.toList[j]? ≠ some c) := fun j hj => by
          by_cases e : j = k
          · subst e; rw [hg]; intro h; injection h with h; exact he h
          · exact hno.out j (by omega)
        clear he hg hno
        go_wp2_with fail
        go_round
        case rel => exact ⟨k + 1, by go_num, by omega, HN⟩
        case measure => simp [intOf]; omega
    · have HIN : Hid (inL c s.data.toList = false) := by
        show s.data.toList.contains c = false
        rw [Bool.eq_false_iff]
        intro h
        obtain ⟨j, hj, e⟩ := List.getElem_of_mem (List.contains_iff_mem.1 h)
        refine hno.out j ?_ (by rw [List.getElem?_eq_getElem hj, e])
        have : s.data.toList.length = s.size := by simp
        omega
      clear hno
      go_wp2_with fail
      go_ret
      exact ⟨by rw [HIN.out]; rfl, rfl⟩
def lettersL : List UInt8 := [97, 98, 99, 100, 101, 102, 103, 104, 105, 106, 107, 108, 109, 110, 111, 112, 113, 114, 115, 116, 117, 118, 119, 120, 121, 122, 48, 49, 50, 51, 52, 53, 54, 55, 56, 57]
theorem all_bytes {p : UInt8 → Prop} (h : ∀ n : Fin 256, p (UInt8.ofNat n.val)) (c : UInt8) : p c := by
  have := h ⟨c.toNat, c.toNat_lt⟩
  simpa using this
theorem letters_is (c : UInt8) : inL c lettersL = tagByte c := by
  revert c
  exact all_bytes (by decide +kernel)
theorem more_is (c : UInt8) : tagMore c = (tagByte c || inL c [46, 95, 45]) := by
  revert c
  exact all_bytes (by decide +kernel)
/-- the first bytes may stand in a tag's name -/
def TagTo (l : List UInt8) (k : Nat) : Prop := ∀ j c, j < k → l[j]? = some c → tagMore c = true ∧ (j = 0 → tagByte c = true)
theorem tagOk_of {l : List UInt8} (h : TagTo l l.length) : tagOk l = (decide (1 ≤ l.length) && decide (l.length ≤ 32)) := by
  cases l with
  | nil => rfl
  | cons c r =>
    unfold tagOk
    have h1 := (h 0 c (by simp) rfl).2 rfl
    have h2 : (c :: r).all tagMore = true := by
      rw [List.all_eq_true]
      intro x hx
      obtain ⟨j, hj, e⟩ := List.getElem_of_mem hx
      exact (h j x hj (by rw [List.getElem?_eq_getElem hj, e])).1
    simp only [h1, h2, Bool.true_and]
    simp
theorem tagOk_no {l : List UInt8} {k : Nat} {c : UInt8} (hk : l[k]? = some c) (h : tagMore c = false ∨ (k = 0 ∧ tagByte c = false)) : tagOk l = false := by
  cases l with
  | nil => rfl
  | cons b r =>
    unfold tagOk
    rcases h with h | ⟨rfl, h⟩
    · have : (b :: r).all tagMore = false := by
        rw [Bool.eq_false_iff]
        intro ha
        have := List.all_eq_true.1 ha c (List.mem_of_getElem? hk)
        rw [h] at this; cases this
      simp only [this, Bool.and_false, Bool.false_and]
    · have e : b = c := by simpa using hk
      subst e
      simp only [h, Bool.false_and]
set_option maxHeartbeats 2000000 in
set_option maxRecDepth 100000 in
theorem refTag_calls (s : ByteArray) (w : World) (hs : s.size ≤ 8388608) :
    Calls Tryz.prog 16 #[.string s] w fun e w' => e = .returned (.bool (tagOk s.data.toList)) ∧ w = w' := by
  have hs' : (s.size : Int) ≤ 8388608 := by omega
  have hls : s.data.toList.length = s.size := by simp
  have H1 := Lib.hid (fun c => one_calls c ⟨#[97, 98, 99, 100, 101, 102, 103, 104, 105, 106, 107, 108, 109, 110, 111, 112, 113, 114, 115, 116, 117, 118, 119, 120, 121, 122, 48, 49, 50, 51, 52, 53, 54, 55, 56, 57]⟩ w (by decide))
  have H2 := Lib.hid (fun c => one_calls c ⟨#[46, 95, 45]⟩ w (by decide))
  have HLS := Lib.hid hls
  clear hs hls
  go_enter Tryz.func16, Tryz.ntmps16
  go_wp2_with fail
  go_loop [4] (fun i => ∃ k : Nat, i = .int .i64 k ∧ (k : Int) ≤ s.size ∧ Hid (TagTo s.data.toList k)) (fun i => s.size - (intOf i).toNat)
  case atStart => exact ⟨0, rfl, by omega, fun j c hj => by omega⟩
  case round =>
    obtain ⟨k, rfl, hk, hto⟩ := hrel
    by_cases hlt : (k : Int) < s.size
    · have hk' : k < s.size := by omega
      have hg := Lib.hid (getElem_list s k hk')
      have h1 := H1.out s[k]
      have h2 := H2.out s[k]
      change Calls Tryz.prog 43 _ w (fun e w' => e = .returned (.bool (inL s[k] lettersL)) ∧ w = w') at h1
      rw [letters_is] at h1
      change Calls Tryz.prog 43 _ w (fun e w' => e = .returned (.bool (inL s[k] [46, 95, 45])) ∧ w = w') at h2
      have hm := more_is s[k]
      cases hb : tagByte s[k] with
      | true =>
        rw [hb] at h1 hm
        have HN : Hid (TagTo s.data.toList (k + 1)) := fun j c hj hc => by
          by_cases e : j = k
          · subst e
            rw [hg.out] at hc
            injection hc with hc
            subst hc
            exact ⟨by rw [hm]; rfl, fun _ => hb⟩
          · exact hto.out j c (by omega) hc
        have H := Lib.hid h1
        clear h1 h2 hm hb hto
        go_wp2_with (first | (go_at_call 43; refine H.out.mono ?_; rintro e w' ⟨rfl, rfl⟩))
        go_round
        case rel => exact ⟨k + 1, by go_num, by omega, HN⟩
        case measure => simp [intOf]; omega
      | false =>
        rw [hb] at h1 hm
        have H := Lib.hid h1
        by_cases hk0 : k = 0
        · have HF : Hid (tagOk s.data.toList = false) := tagOk_no hg.out (.inr ⟨hk0, hb⟩)
          have hq : ((k : Int) == 0) = true := by rw [hk0]; rfl
          clear h1 h2 hm hb hto hk0
          go_wp2_with (first | (go_at_call 43; refine H.out.mono ?_; rintro e w' ⟨rfl, rfl⟩))
          go_ret
          exact ⟨by rw [HF.out]; rfl, rfl⟩
        · have hq : ((k : Int) == 0) = false := by rw [beq_eq_false_iff_ne]; omega
          cases hi : inL s[k] [46, 95, 45] with
          | true =>
            rw [hi] at h2 hm
            have H2' := Lib.hid h2
            have HN : Hid (TagTo s.data.toList (k + 1)) := fun j c hj hc => by
              by_cases e : j = k
              · subst e
                rw [hg.out] at hc
                injection hc with hc
                subst hc
                exact ⟨by rw [hm]; rfl, fun h => absurd h hk0⟩
              · exact hto.out j c (by omega) hc
            clear h1 h2 hm hb hto hk0 hi
            go_wp2_with fail
            refine H.out.mono ?_
            rintro e w' ⟨rfl, rfl⟩
            go_wp2_with fail
            refine H2'.out.mono ?_
            rintro e w' ⟨rfl, rfl⟩
            go_wp2_with fail
            go_round
            case rel => exact ⟨k + 1, by go_num, by omega, HN⟩
            case measure => simp [intOf]; omega
          | false =>
            rw [hi] at h2 hm
            have H2' := Lib.hid h2
            have HF : Hid (tagOk s.data.toList = false) := tagOk_no hg.out (.inl hm)
            clear h1 h2 hm hb hto hk0 hi
            go_wp2_with fail
            refine H.out.mono ?_
            rintro e w' ⟨rfl, rfl⟩
            go_wp2_with fail
            refine H2'.out.mono ?_
            rintro e w' ⟨rfl, rfl⟩
            go_wp2_with fail
            go_ret
            exact ⟨by rw [HF.out]; rfl, rfl⟩
    · have hT : tagOk s.data.toList = (decide (1 ≤ s.size) && decide (s.size ≤ 32)) := by
        have : k = s.data.toList.length := by rw [HLS.out]; omega
        rw [this] at hto
        rw [tagOk_of hto.out, HLS.out]
      have HT := Lib.hid hT
      clear hto hT
      by_cases h1 : (1 : Int) ≤ s.size
      · by_cases h32 : (s.size : Int) ≤ 32
        · go_wp2_with fail
          go_ret
          exact ⟨by rw [HT.out, decide_eq_true (by omega), decide_eq_true (by omega)]; rfl, rfl⟩
        · go_wp2_with fail
          go_ret
          exact ⟨by rw [HT.out, decide_eq_false (show ¬ s.size ≤ 32 by omega), Bool.and_false]; rfl, rfl⟩
      · go_wp2_with fail
        go_ret
        exact ⟨by rw [HT.out, decide_eq_false (show ¬ 1 ≤ s.size by omega), Bool.false_and]; rfl, rfl⟩
end Go.Proofs.YtjplfkcelkijfaaGreatDoor
