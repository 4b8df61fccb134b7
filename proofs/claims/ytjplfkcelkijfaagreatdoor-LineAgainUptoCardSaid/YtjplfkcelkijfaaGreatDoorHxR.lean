/- worth. No condition. -/
import Derived.Test.YtjplfkcelkijfaaGreatDoorHxV
namespace Go.Proofs.YtjplfkcelkijfaaGreatDoor
open Go.RowKit
theorem figU_a {c : UInt8} (h1 : 48 ≤ c.toNat) (h2 : c.toNat ≤ 57) : (figU c : Int) = c.toNat - 48 := by
  unfold figU figN; rw [if_pos (by omega)]; omega
theorem figU_b {c : UInt8} (h1 : 97 ≤ c.toNat) (h2 : c.toNat ≤ 102) : (figU c : Int) = c.toNat - 87 := by
  unfold figU figN; rw [if_neg (by omega), if_pos (by omega)]; omega
theorem figU_c {c : UInt8} (h1 : ¬ (48 ≤ c.toNat ∧ c.toNat ≤ 57)) (h2 : ¬ (97 ≤ c.toNat ∧ c.toNat ≤ 102)) : figU c = 16 := by
  unfold figU figN; rw [if_neg (by omega), if_neg (by omega)]
set_option maxHeartbeats 1000000 in
set_option maxRecDepth 100000 in
theorem worth_calls (c : UInt8) (w : World) : Calls Tryz.prog 70 #[.int .u8 c.toNat] w fun e w' => e = .returned (.int .u8 (figU c)) ∧ w' = w := by
  have A := Lib.hid (@figU_a c)
  have B := Lib.hid (@figU_b c)
  have C := Lib.hid (@figU_c c)
  have hc : (c.toNat : Int) < 256 := by have := c.toNat_lt; omega
  generalize c.toNat = n at *
  by_cases h1 : (n : Int) ≥ 48
  · by_cases h2 : (n : Int) ≤ 57
    · go_enter Tryz.func70, Tryz.ntmps70
      go_wp2
      go_ret
      refine ⟨ret_int ?_, rfl⟩
      rw [A.out (by omega) (by omega)]
      try (simp [IntKind.wrap, IntKind.bits] <;> omega)
    · by_cases h3 : (n : Int) ≥ 97
      · by_cases h4 : (n : Int) ≤ 102
        · go_enter Tryz.func70, Tryz.ntmps70
          go_wp2
          go_ret
          refine ⟨ret_int ?_, rfl⟩
          rw [B.out (by omega) (by omega)]
          first | omega | (simp [IntKind.wrap, IntKind.bits] <;> omega)
        · go_enter Tryz.func70, Tryz.ntmps70
          go_wp2
          go_ret
          refine ⟨ret_int ?_, rfl⟩
          rw [C.out (by omega) (by omega)]; rfl
      · have h3' : decide ((n : Int) ≥ 97) = false := decide_eq_false h3
        go_enter Tryz.func70, Tryz.ntmps70
        go_wp2
        go_ret
        refine ⟨ret_int ?_, rfl⟩
        rw [C.out (by omega) (by omega)]; rfl
  · have h1' : decide ((n : Int) ≥ 48) = false := decide_eq_false h1
    have h3 : ¬ (n : Int) ≥ 97 := by omega
    go_enter Tryz.func70, Tryz.ntmps70
    go_wp2
    go_ret
    refine ⟨ret_int ?_, rfl⟩
    rw [C.out (by omega) (by omega)]; rfl
end Go.Proofs.YtjplfkcelkijfaaGreatDoor
