/- When a text is a digest's: its length, what it begins with, its figures. No condition. -/
import Derived.Test.YtolaecdopfmbgaaDoorS
namespace Go.Proofs.YtolaecdopfmbgaaDoor
open Go.RowKit

theorem hexP_length (l : List UInt8) : (hexP l).length = l.length / 2 := by simp [hexP]
theorem digOk_length {l : List UInt8} (h : digOk l = true) : l.length = 71 := by
  unfold digOk at h
  rw [Bool.and_eq_true, Bool.and_eq_true, decide_eq_true_eq, hexP_length] at h
  obtain ⟨h1, h2, h3⟩ := h
  have e : Lib.trimPrefix l kindL = l.drop 7 := by unfold Lib.trimPrefix; rw [if_pos h1]; rfl
  rw [e] at h2 h3
  unfold hexOk at h2
  rw [Bool.and_eq_true, decide_eq_true_eq] at h2
  rw [List.length_drop] at *
  omega
theorem digOk_no {l : List UInt8} (h : l.length ≠ 71) : digOk l = false := by
  cases hq : digOk l
  · rfl
  · exact absurd (digOk_length hq) h
theorem digOk_at {l : List UInt8} (h : l.length = 71) (hp : Lib.hasPrefix l kindL = true) : digOk l = hexOk (l.drop 7) := by
  have e : Lib.trimPrefix l kindL = l.drop 7 := by unfold Lib.trimPrefix; rw [if_pos hp]; rfl
  unfold digOk
  rw [hp, e, hexP_length, List.length_drop, h]
  simp
theorem digOk_other {l : List UInt8} (hp : Lib.hasPrefix l kindL = false) : digOk l = false := by
  unfold digOk; rw [hp]; rfl
end Go.Proofs.YtolaecdopfmbgaaDoor
