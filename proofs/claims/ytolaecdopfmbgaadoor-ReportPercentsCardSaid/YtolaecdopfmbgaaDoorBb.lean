/- Plain laws of a long division's digits, base 2^32. No condition. -/
import Derived.Test.YtolaecdopfmbgaaDoorBa
namespace Go.Proofs.YtolaecdopfmbgaaDoor

/-- a digit of u * 2^32 + u1 by y1 * 2^32 + y0 -/
def digQ (u u1 y1 y0 : Nat) : Nat := (u * 4294967296 + u1) / (y1 * 4294967296 + y0)
theorem digQ_lt {u u1 y1 y0 : Nat} (h1 : u1 < 4294967296) (hu : u < y1 * 4294967296 + y0) : digQ u u1 y1 y0 < 4294967296 := by
  unfold digQ
  rw [Nat.div_lt_iff_lt_mul (by omega)]
  have : (u + 1) * 4294967296 ≤ (y1 * 4294967296 + y0) * 4294967296 := Nat.mul_le_mul_right _ hu
  omega
theorem mul_split (q y1 y0 : Nat) : q * (y1 * 4294967296 + y0) = q * y1 * 4294967296 + q * y0 := by rw [Nat.mul_add, Nat.mul_assoc]
/-- the first guess is not too small -/
theorem digQ_le {u u1 y1 y0 : Nat} (h1 : u1 < 4294967296) (hy : 0 < y1) : digQ u u1 y1 y0 ≤ u / y1 := by
  rw [Nat.le_div_iff_mul_le hy]
  have h := Nat.div_mul_le_self (u * 4294967296 + u1) (y1 * 4294967296 + y0)
  have e : digQ u u1 y1 y0 * (y1 * 4294967296 + y0) ≤ u * 4294967296 + u1 := h
  rw [mul_split] at e
  omega
/-- a guess that is too great is made smaller -/
theorem digQ_step {u u1 y1 y0 q r : Nat} (h1 : u1 < 4294967296) (hu : u < y1 * 4294967296 + y0) (hi : q * y1 + r = u) (hg : digQ u u1 y1 y0 ≤ q) (hc : 4294967296 ≤ q ∨ r * 4294967296 + u1 < q * y0) :
    1 ≤ q ∧ digQ u u1 y1 y0 ≤ q - 1 ∧ (q - 1) * y1 + (r + y1) = u := by
  have hlt : digQ u u1 y1 y0 < q := by
    rcases hc with hc | hc
    · exact Nat.lt_of_lt_of_le (digQ_lt h1 hu) hc
    · have hlt2 : u * 4294967296 + u1 < q * (y1 * 4294967296 + y0) := by
        rw [mul_split]
        have e1 : q * y1 * 4294967296 + r * 4294967296 = u * 4294967296 := by rw [← Nat.add_mul, hi]
        calc u * 4294967296 + u1 = q * y1 * 4294967296 + (r * 4294967296 + u1) := by rw [← Nat.add_assoc, e1]
          _ < _ := Nat.add_lt_add_left hc _
      have hpos : 0 < y1 * 4294967296 + y0 := by omega
      exact (Nat.div_lt_iff_lt_mul hpos).2 hlt2
  refine ⟨by omega, by omega, ?_⟩
  obtain ⟨p, rfl⟩ : ∃ p, q = p + 1 := ⟨q - 1, by omega⟩
  rw [Nat.add_mul, Nat.one_mul] at hi
  rw [Nat.add_sub_cancel]
  omega
/-- the guess that is left is right -/
theorem digQ_exit {u u1 y1 y0 q r : Nat} (hy : 0 < y1) (hi : q * y1 + r = u) (hg : digQ u u1 y1 y0 ≤ q) (hx : q * y0 ≤ r * 4294967296 + u1) : q = digQ u u1 y1 y0 := by
  refine Nat.le_antisymm ?_ hg
  unfold digQ
  rw [Nat.le_div_iff_mul_le (by omega), mul_split]
  omega
/-- .. when r has grown so far, the test need not be made -/
theorem digQ_far {u1 y0 q r : Nat} (hq : q ≤ 4294967296) (h0 : y0 < 4294967296) (hr : 4294967296 ≤ r) : q * y0 ≤ r * 4294967296 + u1 := by
  have := Nat.mul_le_mul hq (Nat.le_of_lt h0)
  omega
/-- the first guess is at most 2^32 + 1 -/
theorem digQ_first {u y1 y0 : Nat} (hy : 2147483648 ≤ y1) (h0 : y0 < 4294967296) (hu : u < y1 * 4294967296 + y0) : u / y1 ≤ 4294967297 := by
  have : u / y1 < 4294967298 := by
    rw [Nat.div_lt_iff_lt_mul (by omega)]; omega
  omega
/-- what is left behind a digit -/
theorem digQ_rest {u u1 y1 y0 : Nat} (hy : 0 < y1) : u * 4294967296 + u1 - digQ u u1 y1 y0 * (y1 * 4294967296 + y0) = (u * 4294967296 + u1) % (y1 * 4294967296 + y0) := by
  have := Nat.div_add_mod (u * 4294967296 + u1) (y1 * 4294967296 + y0)
  have e := Nat.mul_comm ((u * 4294967296 + u1) / (y1 * 4294967296 + y0)) (y1 * 4294967296 + y0)
  unfold digQ
  rw [e]
  generalize (y1 * 4294967296 + y0) * ((u * 4294967296 + u1) / (y1 * 4294967296 + y0)) = B at this ⊢
  omega
/-- two digits are the quotient -/
theorem digQ_two {n y u1 u0 : Nat} (hy : 0 < y) (h0 : u0 < 4294967296) : (n * 4294967296 + u1) / y * 4294967296 + ((n * 4294967296 + u1) % y * 4294967296 + u0) / y = ((n * 4294967296 + u1) * 4294967296 + u0) / y := by
  have e := Nat.div_add_mod (n * 4294967296 + u1) y
  have e2 : (n * 4294967296 + u1) * 4294967296 + u0 = y * ((n * 4294967296 + u1) / y * 4294967296) + ((n * 4294967296 + u1) % y * 4294967296 + u0) := by
    rw [← Nat.mul_assoc]
    omega
  rw [e2, Nat.mul_add_div hy]
end Go.Proofs.YtolaecdopfmbgaaDoor
