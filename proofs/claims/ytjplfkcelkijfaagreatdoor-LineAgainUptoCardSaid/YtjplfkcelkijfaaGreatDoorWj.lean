/- line.tag and line.data: the name, the bytes that a word is. Condition: a word of at most 8388608 bytes. -/
import Derived.Test.YtjplfkcelkijfaaGreatDoorWi
namespace Go.Proofs.YtjplfkcelkijfaaGreatDoor
open Go.RowKit

theorem cut1 (s : List UInt8) (c : UInt8) : Lib.hasPrefix s [c] = decide (s.head? = some c) ∧ (s.head? = some c → Lib.trimPrefix s [c] = s.tail) := by
  unfold Lib.trimPrefix Lib.hasPrefix
  cases s with
  | nil => simp [List.isPrefixOf]
  | cons d r =>
    by_cases h : d = c
    · subst h; simp [List.isPrefixOf]
    · have : (c == d) = false := by rw [beq_eq_false_iff_ne]; exact fun e => h e.symm
      simp [List.isPrefixOf, this, h]
/-- which name a word is; an error's number -/
def tagV (s : List UInt8) : List UInt8 × Int := if s.head? = some 61 ∧ (s.tail = [] ∨ tagOk s.tail = true) then (s.tail, 0) else ([], 3)

set_option maxHeartbeats 2000000 in
set_option maxRecDepth 100000 in
theorem ltag_calls (s : ByteArray) (w : World) (hs : s.size ≤ 8388608) :
    Calls Tryz.prog 46 #[.string s] w fun e w' => e = .returned (.tuple #[.string ⟨(tagV s.data.toList).1.toArray⟩, .int .i64 (tagV s.data.toList).2]) ∧ Below w.heap.size w w' := by
  have hC := fun W => Tryz.strings_CutPrefix s ⟨#[61]⟩ W
  have hp : (⟨#[61]⟩ : ByteArray).data.toList = [61] := rfl
  obtain ⟨h1, h2⟩ := cut1 s.data.toList 61
  rw [hp, h1] at hC
  by_cases h : s.data.toList.head? = some 61
  · rw [decide_eq_true h, h2 h] at hC
    have hTs : (⟨s.data.toList.tail.toArray⟩ : ByteArray).size = s.data.toList.tail.length := by show s.data.toList.tail.toArray.size = _; simp
    have hTe := isEmpty_toList ⟨s.data.toList.tail.toArray⟩
    have hTd : (⟨s.data.toList.tail.toArray⟩ : ByteArray).data.toList = s.data.toList.tail := by simp
    have hTG := fun W => tag_calls ⟨s.data.toList.tail.toArray⟩ W (by rw [hTs, List.length_tail]; simp; omega)
    rw [hTd] at hTG
    have HTG := Lib.hid hTG
    have HC := Lib.hid hC
    by_cases h0 : s.data.toList.tail = []
    · have hV : tagV s.data.toList = (s.data.toList.tail, 0) := by unfold tagV; rw [if_pos ⟨h, .inl h0⟩]
      have HV := Lib.hid hV
      rw [hTs, decide_eq_true (by rw [h0]; rfl)] at hTe
      clear hC h1 h2 hTs hTd hTG hV h0 h HTG
      generalize hT : (⟨s.data.toList.tail.toArray⟩ : ByteArray) = T at *
      go_enter Tryz.func46, Tryz.ntmps46
      go_wp2_with (go_at_call 67; refine (HC.out _).mono ?_; rintro e w1 ⟨rfl, hw1⟩)
      go_ret2
      subst hw1
      refine ⟨?_, Below.refl _ _⟩
      rw [HV.out, ← hT]; rfl
    · have hT1 : ¬ s.data.toList.tail.length = 0 := fun e => h0 (List.eq_nil_of_length_eq_zero e)
      rw [hTs, decide_eq_false hT1] at hTe
      cases hq : tagOk s.data.toList.tail with
      | true =>
        have hV : tagV s.data.toList = (s.data.toList.tail, 0) := by unfold tagV; rw [if_pos ⟨h, .inr hq⟩]
        have HV := Lib.hid hV
        rw [hq] at HTG
        clear hC h1 h2 hTs hTd hTG hV h0 h hT1 hq
        generalize hT : (⟨s.data.toList.tail.toArray⟩ : ByteArray) = T at *
        go_enter Tryz.func46, Tryz.ntmps46
        go_wp2_with (first | (go_at_call 67; refine (HC.out _).mono ?_; rintro e w1 ⟨rfl, rfl⟩) | (go_at_call 68; refine (HTG.out _).mono ?_; rintro e w2 ⟨rfl, rfl⟩))
        go_ret2
        refine ⟨?_, Below.refl _ _⟩
        rw [HV.out, ← hT]; rfl
      | false =>
        have hV : tagV s.data.toList = ([], 3) := by unfold tagV; rw [if_neg (fun hh => by rcases hh.2 with h' | h'; exact h0 h'; rw [hq] at h'; cases h')]
        have HV := Lib.hid hV
        rw [hq] at HTG
        clear hC h1 h2 hTs hTd hTG hV h0 h hT1 hq
        generalize hT : (⟨s.data.toList.tail.toArray⟩ : ByteArray) = T at *
        go_enter Tryz.func46, Tryz.ntmps46
        go_wp2_with (first | (go_at_call 67; refine (HC.out _).mono ?_; rintro e w1 ⟨rfl, rfl⟩) | (go_at_call 68; refine (HTG.out _).mono ?_; rintro e w2 ⟨rfl, rfl⟩))
        go_ret2
        refine ⟨?_, Below.refl _ _⟩
        rw [HV.out]; rfl
  · rw [decide_eq_false h] at hC
    have hV : tagV s.data.toList = ([], 3) := by unfold tagV; rw [if_neg (fun hh => h hh.1)]
    have HV := Lib.hid hV
    have HC := Lib.hid hC
    clear hC hV h1 h2 h
    generalize (Lib.trimPrefix s.data.toList [61]).toArray = T at *
    go_enter Tryz.func46, Tryz.ntmps46
    go_wp2_with (first | (go_at_call 67; refine (HC.out _).mono ?_; rintro e w1 ⟨rfl, rfl⟩))
    go_ret2
    refine ⟨?_, Below.refl _ _⟩
    rw [HV.out]; rfl

/-- which bytes a word is; an error's number -/
def dataV (s : List UInt8) : List UInt8 × Int := if s.head? = some 120 ∧ hexOk s.tail = true then (hexP s.tail, 0) else ([], 3)
set_option maxHeartbeats 2000000 in
set_option maxRecDepth 100000 in
theorem data_calls (s : ByteArray) (w : World) (hs : s.size ≤ 8388608) :
    Calls Tryz.prog 48 #[.string s] w fun e w' => ∃ A cap, e = .returned (.tuple #[.slice A (dataV s.data.toList).1.length cap, .int .i64 (dataV s.data.toList).2]) ∧ CellsIn w' A (Lib.byteCells (dataV s.data.toList).1) ∧ Below w.heap.size w w' ∧ ∀ a, A = some a → w.heap.size ≤ a.block := by
  have hC := fun W => Tryz.strings_CutPrefix s ⟨#[120]⟩ W
  have hp : (⟨#[120]⟩ : ByteArray).data.toList = [120] := rfl
  obtain ⟨h1, h2⟩ := cut1 s.data.toList 120
  rw [hp, h1] at hC
  by_cases h : s.data.toList.head? = some 120
  · rw [decide_eq_true h, h2 h] at hC
    have hTd : (⟨s.data.toList.tail.toArray⟩ : ByteArray).data.toList = s.data.toList.tail := by simp
    have hHR := fun W => hexRead_calls ⟨s.data.toList.tail.toArray⟩ W (by show s.data.toList.tail.toArray.size ≤ _; simp; omega)
    rw [hTd] at hHR
    unfold HexPost at hHR
    by_cases hq : hexOk s.data.toList.tail = true
    · have hV : dataV s.data.toList = (hexP s.data.toList.tail, 0) := by unfold dataV; rw [if_pos ⟨h, hq⟩]
      simp only [if_pos hq] at hHR
      rw [hV]
      have HHR := Lib.hid hHR
      have HC := Lib.hid hC
      clear hC h1 h2 hTd hHR hV h hq
      generalize (⟨s.data.toList.tail.toArray⟩ : ByteArray) = T at *
      generalize hexP s.data.toList.tail = L at *
      go_enter Tryz.func48, Tryz.ntmps48
      go_wp2_with (first | (go_at_call 67; refine (HC.out _).mono ?_; rintro e w1 ⟨rfl, rfl⟩) | (go_at_call 69; refine (HHR.out _).mono ?_; rintro e w2 ⟨A, cap, rfl, hcells, hb2, hlow⟩))
      go_ret2
      exact ⟨A, cap, rfl, hcells, hb2, hlow⟩
    · have hV : dataV s.data.toList = ([], 3) := by unfold dataV; rw [if_neg (fun hh => hq hh.2)]
      simp only [if_neg hq] at hHR
      rw [hV]
      have HHR := Lib.hid hHR
      have HC := Lib.hid hC
      clear hC h1 h2 hTd hHR hV h hq
      generalize (⟨s.data.toList.tail.toArray⟩ : ByteArray) = T at *
      go_enter Tryz.func48, Tryz.ntmps48
      go_wp2_with (first | (go_at_call 67; refine (HC.out _).mono ?_; rintro e w1 ⟨rfl, rfl⟩) | (go_at_call 69; refine (HHR.out _).mono ?_; rintro e w2 ⟨A, cap, rfl, hcells, hb2, hlow⟩))
      go_ret2
      exact ⟨A, cap, rfl, hcells, hb2, hlow⟩
  · rw [decide_eq_false h] at hC
    have hV : dataV s.data.toList = ([], 3) := by unfold dataV; rw [if_neg (fun hh => h hh.1)]
    have HV := Lib.hid hV
    have HC := Lib.hid hC
    clear hC hV h1 h2 h
    generalize (Lib.trimPrefix s.data.toList [120]).toArray = T at *
    go_enter Tryz.func48, Tryz.ntmps48
    go_wp2_with (first | (go_at_call 67; refine (HC.out _).mono ?_; rintro e w1 ⟨rfl, rfl⟩))
    go_ret2
    rw [HV.out]
    exact ⟨none, 0, rfl, fun k v hk => by simp [Lib.byteCells] at hk, Below.refl _ _, fun a e => by cases e⟩
end Go.Proofs.YtjplfkcelkijfaaGreatDoor
