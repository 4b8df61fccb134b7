/- report.Percent: for every two numbers. -/
import Derived.Test.YtolaecdopfmbgaaDoorBc
namespace Go.Proofs.YtolaecdopfmbgaaDoor
open Go.RowKit

set_option maxHeartbeats 1000000 in
set_option maxRecDepth 100000 in
theorem percent_calls (a b : Int) (w : World) (ha : -9223372036854775808 ≤ a ∧ a ≤ 9223372036854775807) (hb : -9223372036854775808 ≤ b ∧ b ≤ 9223372036854775807) :
    Calls Tryd.prog 16 #[.int .i64 a, .int .i64 b] w fun e w' => e = .returned (.int .i64 (perc a b)) ∧ ∃ n, w' = w.drewN n := by
  obtain ⟨ha1, ha2⟩ := ha
  obtain ⟨hb1, hb2⟩ := hb
  by_cases h1 : b < 1
  · have HP := Lib.hid (show perc a b = 0 by unfold perc; rw [if_pos (.inl h1)])
    go_enter Tryd.func16, Tryd.ntmps16
    go_wp2
    go_ret
    exact ⟨by rw [HP.out]; rfl, 0, rfl⟩
  · by_cases h2 : a < 0
    · have HP := Lib.hid (show perc a b = 0 by unfold perc; rw [if_pos (.inr h2)])
      go_enter Tryd.func16, Tryd.ntmps16
      go_wp2
      go_ret
      exact ⟨by rw [HP.out]; rfl, 0, rfl⟩
    · by_cases h3 : a > b
      · have HP := Lib.hid (show perc a b = 100 by unfold perc; rw [if_neg (by omega), if_pos h3])
        go_enter Tryd.func16, Tryd.ntmps16
        go_wp2
        go_ret
        exact ⟨by rw [HP.out]; rfl, 0, rfl⟩
      · obtain ⟨m, rfl⟩ := Int.eq_ofNat_of_zero_le (Int.not_lt.1 h2)
        obtain ⟨d, rfl⟩ : ∃ d : Nat, b = d := ⟨b.toNat, by omega⟩
        have h34 := fun w => Tryd.bits_Mul64 m 100 (by omega) (by omega) w
        have h35 := fun w => div64_calls (m * 100 / 18446744073709551616) (m * 100 % 18446744073709551616) d w (by omega) (by omega) (by omega)
        have hs : m * 100 / 18446744073709551616 * 18446744073709551616 + m * 100 % 18446744073709551616 = m * 100 := by omega
        rw [hs] at h35
        have hq : m * 100 / d ≤ 100 := by
          rw [Nat.div_le_iff_le_mul_add_pred (by omega)]; omega
        have HP := Lib.hid (show perc m d = ((m * 100 / d : Nat) : Int) by
          unfold perc
          rw [if_neg (by omega), if_neg h3]
          simp)
        have hq' : ((m * 100 / d : Nat) : Int) ≤ 100 := by omega
        have H34 := Lib.hid h34
        have H35 := Lib.hid h35
        clear h34 h35 hs hq
        generalize m * 100 / 18446744073709551616 = hi at *
        generalize m * 100 % 18446744073709551616 = lo at *
        generalize m * 100 / d = q at *
        go_enter Tryd.func16, Tryd.ntmps16
        go_wp2_with (first | (go_at_call 34; refine (H34.out _).mono ?_; rintro e w1 ⟨rfl, rfl⟩) | (go_at_call 35; refine (H35.out _).mono ?_; rintro e w2 ⟨⟨r, rfl⟩, n, rfl⟩))
        go_ret
        exact ⟨by rw [HP.out]; rfl, n, rfl⟩
end Go.Proofs.YtolaecdopfmbgaaDoor
