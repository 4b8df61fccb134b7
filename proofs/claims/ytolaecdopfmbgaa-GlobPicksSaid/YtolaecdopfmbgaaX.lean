/- lives returns true; the law GlobMatches returns true, for strings of at most 140737488351232 bytes. -/
import Derived.Test.YtolaecdopfmbgaaV
namespace Go.Proofs.Ytolaecdopfmbgaa
open Go.RowKit
theorem live1 : matchG [118, 91, 48, 45, 57, 93, 42] [118, 49, 46, 48] = true := by decide +kernel
theorem live2 : matchG [118, 91, 48, 45, 57, 93, 42] [118, 120] = false := by decide +kernel
theorem live3 : rightG [91, 97] = 3 := by decide +kernel

theorem live_a (w : World) : Calls Try.prog 8 #[.string ⟨#[118, 91, 48, 45, 57, 93, 42]⟩, .string ⟨#[118, 49, 46, 48]⟩] w fun e w' => e = .returned (.bool true) ∧ Below w.heap.size w w' := by
  have h := match8_calls ⟨#[118, 91, 48, 45, 57, 93, 42]⟩ ⟨#[118, 49, 46, 48]⟩ w (by decide) (by decide)
  rwa [live1] at h
theorem live_b (w : World) : Calls Try.prog 8 #[.string ⟨#[118, 91, 48, 45, 57, 93, 42]⟩, .string ⟨#[118, 120]⟩] w fun e w' => e = .returned (.bool false) ∧ Below w.heap.size w w' := by
  have h := match8_calls ⟨#[118, 91, 48, 45, 57, 93, 42]⟩ ⟨#[118, 120]⟩ w (by decide) (by decide)
  rwa [live2] at h
theorem live_c (w : World) : Calls Try.prog 6 #[.string ⟨#[91, 97]⟩] w fun e w' => e = .returned (.int .i64 3) ∧ Below w.heap.size w w' := by
  have h := right_calls ⟨#[91, 97]⟩ w (by decide)
  rwa [live3] at h

set_option maxHeartbeats 1000000 in
theorem lives_calls (w : World) : Calls Try.prog 10 #[] w fun e w' => e = .returned (.bool true) ∧ Below w.heap.size w w' := by
  go_enter Try.func10, Try.ntmps10
  go_wp2_with fail
  refine (live_a _).mono ?_
  rintro e w1 ⟨rfl, hb1⟩
  go_wp2_with fail
  refine (live_b _).mono ?_
  rintro e w2 ⟨rfl, hb2⟩
  go_wp2_with fail
  refine (live_c _).mono ?_
  rintro e w3 ⟨rfl, hb3⟩
  go_wp2_with fail
  go_ret
  exact ⟨rfl, hb1.trans ((hb2.trans (hb3.mono hb2.size)).mono hb1.size)⟩

set_option maxHeartbeats 1000000 in
theorem globMatches_calls (p s : ByteArray) (w : World) (hp : p.size ≤ 140737488351232) (hs : s.size ≤ 140737488351232) :
    Calls Try.prog 3 #[.string p, .string s] w fun e w' => e = .returned (.bool true) ∧ Below w.heap.size w w' := by
  have h6 := fun w => right_calls p w hp
  have h7 := fun w => right7_calls p w hp
  have h8 := fun w => match8_calls p s w hp (by omega)
  have h9 := fun w => match9_calls p s w hp hs
  generalize rightG p.data.toList = r at *
  generalize matchG p.data.toList s.data.toList = b at *
  have H6 := Lib.hid h6
  have H7 := Lib.hid h7
  have H8 := Lib.hid h8
  have H9 := Lib.hid h9
  clear h6 h7 h8 h9
  go_enter Try.func3, Try.ntmps3
  go_wp2_with (first | (go_at_call 6; refine (H6.out _).mono ?_; rintro e w1 ⟨rfl, hb1⟩) | (go_at_call 7; refine (H7.out _).mono ?_; rintro e w2 ⟨rfl, n2, rfl⟩) | (go_at_call 8; refine (H8.out _).mono ?_; rintro e w3 ⟨rfl, hb3⟩) | (go_at_call 9; refine (H9.out _).mono ?_; rintro e w4 ⟨rfl, hb4⟩) | (go_at_call 10; refine (lives_calls _).mono ?_; rintro e w5 ⟨rfl, hb5⟩))
  go_ret
  exact ⟨rfl, hb1.trans ((((below_drewN (Below.refl _ w1) n2).trans (hb3.trans ((hb4.trans (hb5.mono hb4.size)).mono hb3.size)))).mono hb1.size)⟩
end Go.Proofs.Ytolaecdopfmbgaa
