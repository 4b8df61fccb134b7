/- The law ReportPercents returns true, for every two ints. -/
import Derived.Test.YtolaecdopfmbgaaDoorBj
namespace Go.Proofs.YtolaecdopfmbgaaDoor
open Go.RowKit

set_option maxHeartbeats 2000000 in
set_option maxRecDepth 100000 in
theorem reportLives_calls (w : World) (hP : Pow w) : Calls Tryd.prog 18 #[] w fun e w' => e = .returned (.bool true) ∧ Below w.heap.size w w' := by
  have H36 := Lib.hid (text0_calls w hP)
  have H16 := Lib.hid (fun W => percent_calls 1 3 W (by decide) (by decide))
  clear hP
  go_enter Tryd.func18, Tryd.ntmps18
  go_wp2_with (first | (go_at_call 36; refine H36.out.mono ?_; rintro e w1 ⟨rfl, hb1⟩) | (go_at_call 16; refine (H16.out _).mono ?_; rintro e w2 ⟨he, n, rfl⟩; rw [show perc 1 3 = 33 by decide] at he; subst he))
  go_ret
  exact ⟨rfl, below_drewN hb1 n⟩

theorem perc_bound (a b : Int) : 0 ≤ perc a b ∧ perc a b ≤ 100 := by
  unfold perc
  split
  · omega
  · rename_i h
    split
    · omega
    · rename_i h2
      have hb : 0 < b := by omega
      refine ⟨Int.ediv_nonneg (by omega) (by omega), ?_⟩
      rw [show a * 100 / b ≤ 100 ↔ a * 100 / b < 101 by omega]
      exact Int.ediv_lt_of_lt_mul hb (by omega)
theorem perc_self (b : Int) (h : ¬ b < 1) : perc b b = 100 := by
  unfold perc
  rw [if_neg (by omega), if_neg (by omega), Int.mul_comm]
  exact Int.mul_ediv_cancel 100 (by omega)

set_option maxHeartbeats 2000000 in
set_option maxRecDepth 100000 in
theorem law_percents (a b : Int) (w : World) (hP : Pow w) (ha : -9223372036854775808 ≤ a ∧ a ≤ 9223372036854775807) (hb : -9223372036854775808 ≤ b ∧ b ≤ 9223372036854775807) :
    Calls Tryd.prog 6 #[.int .i64 a, .int .i64 b] w fun e w' => e = .returned (.bool true) ∧ Below w.heap.size w w' := by
  have hp := perc_bound a b
  have HS := Lib.hid (perc_self b)
  have H16 := Lib.hid (fun W => percent_calls a b W ha hb)
  have H16b := Lib.hid (fun W => percent_calls b b W hb hb)
  have H17 := Lib.hid (fun W => refPercent_calls a b W ha hb)
  have H18 := Lib.hid (fun n => reportLives_calls (w.drewN n) (hP.below (below_drewN (Below.refl _ _) n)))
  clear ha hb hP
  generalize perc a b = p at *
  obtain ⟨hp0, hp1⟩ := hp
  by_cases h1 : b < 1
  · go_enter Tryd.func6, Tryd.ntmps6
    go_wp2_with (first | (go_at_call 16; refine (H16.out _).mono ?_; rintro e w2 ⟨rfl, n, rfl⟩) | (go_at_call 17; refine (H17.out _).mono ?_; rintro e w2 ⟨rfl, m, rfl⟩) | (go_at_call 18; refine (H18.out _).mono ?_; rintro e w3 ⟨rfl, hb3⟩))
    go_ret
    exact ⟨rfl, (below_drewN (Below.refl _ _) (n + m)).trans hb3⟩
  · have HQ := Lib.hid (HS.out h1)
    go_enter Tryd.func6, Tryd.ntmps6
    go_wp2_with (first | (go_at_call 16; first | ((with_reducible refine (H16.out _).mono ?_); rintro e w2 ⟨rfl, n, rfl⟩) | ((with_reducible refine (H16b.out _).mono ?_); rintro e w2 ⟨he, l, rfl⟩; rw [HQ.out] at he; subst he)) | (go_at_call 17; refine (H17.out _).mono ?_; rintro e w2 ⟨rfl, m, rfl⟩) | (go_at_call 18; refine (H18.out _).mono ?_; rintro e w3 ⟨rfl, hb3⟩))
    go_ret
    exact ⟨rfl, (below_drewN (Below.refl _ _) (n + m + l)).trans hb3⟩
end Go.Proofs.YtolaecdopfmbgaaDoor
