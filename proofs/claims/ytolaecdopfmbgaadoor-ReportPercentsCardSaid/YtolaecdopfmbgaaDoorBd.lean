/- Plain laws of a long division's shift. No condition. -/
import Derived.Lib.BitFns
import Derived.Lib.EndianBits
import Derived.Test.YtolaecdopfmbgaaDoorBb
namespace Go.Proofs.YtolaecdopfmbgaaDoor

theorem bitLen_is : ∀ (n x : Nat), x ≤ n → x ≠ 0 → x < 2 ^ 64 → ∃ k, Lib.bitLen x = k + 1 ∧ 2 ^ k ≤ x ∧ x < 2 ^ (k + 1)
  | n, x, hn, h0, h => by
    by_cases h1 : x = 1
    · subst h1
      exact ⟨0, by decide +kernel, by decide, by decide⟩
    · have hh := Lib.bitLen_half x h0 h
      obtain ⟨k, e, h2, h3⟩ := bitLen_is (n - 1) (x / 2) (by omega) (by omega) (by omega)
      refine ⟨k + 1, by omega, ?_, ?_⟩
      · rw [Nat.pow_succ]; omega
      · rw [Nat.pow_succ]; omega
  termination_by n => n
  decreasing_by omega
/-- the shift lays the divisor's top bit -/
theorem shift_is {y : Nat} (h0 : 0 < y) (h : y < 2 ^ 64) : ∃ s : Nat, s ≤ 63 ∧ Lib.bitLen y + s = 64 ∧ 2 ^ 63 ≤ y * 2 ^ s ∧ y * 2 ^ s < 2 ^ 64 := by
  obtain ⟨k, e, h1, h2⟩ := bitLen_is y y (Nat.le_refl _) (by omega) h
  have hk : k ≤ 63 := by
    have : 2 ^ k < 2 ^ 64 := Nat.lt_of_le_of_lt h1 h
    have := (Nat.pow_lt_pow_iff_right (by decide : 1 < 2)).1 this
    omega
  refine ⟨63 - k, by omega, by omega, ?_, ?_⟩
  · have e1 : (2 : Nat) ^ 63 = 2 ^ k * 2 ^ (63 - k) := by rw [← Nat.pow_add]; congr 1; omega
    rw [e1]
    exact Nat.mul_le_mul_right _ h1
  · have e1 : (2 : Nat) ^ 64 = 2 ^ (k + 1) * 2 ^ (63 - k) := by rw [← Nat.pow_add]; congr 1; omega
    rw [e1]
    exact Nat.mul_lt_mul_of_pos_right h2 (Nat.two_pow_pos _)
theorem shift_lo {lo s : Nat} (hs : s ≤ 63) : lo * 2 ^ s / 2 ^ 64 = lo / 2 ^ (64 - s) := by
  have e1 : (2 : Nat) ^ 64 = 2 ^ (64 - s) * 2 ^ s := by rw [← Nat.pow_add]; congr 1; omega
  rw [e1, Nat.mul_div_mul_right _ _ (Nat.two_pow_pos _)]
/-- what is divided, shifted -/
theorem shift_sum {hi lo s : Nat} (hs : s ≤ 63) : (hi * 2 ^ 64 + lo) * 2 ^ s = (hi * 2 ^ s + lo / 2 ^ (64 - s)) * 2 ^ 64 + lo * 2 ^ s % 2 ^ 64 := by
  rw [← shift_lo hs, Nat.add_mul (hi * 2 ^ s), Nat.add_assoc, Nat.mul_comm (lo * 2 ^ s / 2 ^ 64), Nat.div_add_mod, Nat.add_mul, Nat.mul_assoc, Nat.mul_assoc, Nat.mul_comm (2 ^ 64)]
theorem shift_quo {hi lo y s : Nat} (hs : s ≤ 63) : (hi * 2 ^ 64 + lo) / y = ((hi * 2 ^ s + lo / 2 ^ (64 - s)) * 2 ^ 64 + lo * 2 ^ s % 2 ^ 64) / (y * 2 ^ s) := by
  rw [← shift_sum hs, Nat.mul_div_mul_right _ _ (Nat.two_pow_pos _)]
theorem shift_lt {hi lo y s : Nat} (hs : s ≤ 63) (hh : hi < y) (hlo : lo < 2 ^ 64) : hi * 2 ^ s + lo / 2 ^ (64 - s) < y * 2 ^ s := by
  have h1 : lo / 2 ^ (64 - s) < 2 ^ s := by
    rw [Nat.div_lt_iff_lt_mul (Nat.two_pow_pos _), ← Nat.pow_add]
    have : s + (64 - s) = 64 := by omega
    rw [this]; exact hlo
  have h2 : (hi + 1) * 2 ^ s ≤ y * 2 ^ s := Nat.mul_le_mul_right _ hh
  rw [Nat.add_mul, Nat.one_mul] at h2
  omega
/-- two digits of what was shifted are the quotient -/
theorem shift_two {hi lo y s : Nat} (hs : s ≤ 63) (hy : 0 < y) :
    (hi * 2 ^ 64 + lo) / y = ((hi * 2 ^ s + lo / 2 ^ (64 - s)) * 4294967296 + lo * 2 ^ s % 2 ^ 64 / 4294967296) / (y * 2 ^ s) * 4294967296 +
      (((hi * 2 ^ s + lo / 2 ^ (64 - s)) * 4294967296 + lo * 2 ^ s % 2 ^ 64 / 4294967296) % (y * 2 ^ s) * 4294967296 + lo * 2 ^ s % 2 ^ 64 % 4294967296) / (y * 2 ^ s) := by
  have hpos : 0 < y * 2 ^ s := Nat.mul_pos hy (Nat.two_pow_pos _)
  rw [digQ_two hpos (Nat.mod_lt _ (by decide)), shift_quo hs]
  generalize hi * 2 ^ s + lo / 2 ^ (64 - s) = U
  generalize lo * 2 ^ s % 2 ^ 64 = V
  have e : (U * 4294967296 + V / 4294967296) * 4294967296 + V % 4294967296 = U * 2 ^ 64 + V := by
    have e64 : (2 : Nat) ^ 64 = 18446744073709551616 := by decide
    rw [e64]
    omega
  rw [e]
/-- the or of the shifted halves is their sum; the mask takes the low half -/
theorem or_shift {H s b : Nat} (hs : s ≤ 63) (hm : H % 2 ^ s = 0) (hH : H < 2 ^ 64) (hb : b < 2 ^ s) : bits .or .u64 (H : Int) (b : Int) = ((H + b : Nat) : Int) := by
  have hb64 : b < 2 ^ 64 := Nat.lt_of_lt_of_le hb (Nat.pow_le_pow_right (by decide) (by omega))
  have := bits_join .u64 64 (by decide) wraps_u64 s (H : Int) (b : Int) (by omega) (by exact_mod_cast hm) (by exact_mod_cast hH) (by omega) (by exact_mod_cast hb) (by exact_mod_cast hb64)
  rw [this]
  simp
theorem and_low {Y : Nat} (h : Y < 2 ^ 64) : bits .and .u64 (Y : Int) 4294967295 = ((Y % 4294967296 : Nat) : Int) := by
  have := bits_mask .u64 64 (by decide) wraps_u64 32 (by decide) (Y : Int) (by omega) (by exact_mod_cast h)
  have e1 : ((2 : Int) ^ 32 - 1) = 4294967295 := by decide
  have e2 : ((2 : Int) ^ 32) = 4294967296 := by decide
  rw [e1, e2] at this
  rw [this]
  simp
end Go.Proofs.YtolaecdopfmbgaaDoor
