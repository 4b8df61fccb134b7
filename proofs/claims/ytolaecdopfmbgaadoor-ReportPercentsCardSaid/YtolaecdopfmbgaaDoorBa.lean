/- The reference's Percent: for every two numbers. -/
import Derived.Test.YtolaecdopfmbgaaDoorAh
namespace Go.Proofs.YtolaecdopfmbgaaDoor
open Go.RowKit

def perc (a b : Int) : Int := if b < 1 ∨ a < 0 then 0 else if a > b then 100 else a * 100 / b
theorem perc_div (m d : Nat) (h : 0 < d) : m / d * 100 + (m % d * 10 / d * 10 + m % d * 10 % d * 10 / d) = m * 100 / d := by
  have e1 := Nat.div_add_mod m d
  have e2 := Nat.div_add_mod (m % d * 10) d
  have e3 : m * 100 = d * (m / d * 100 + m % d * 10 / d * 10) + m % d * 10 % d * 10 := by
    calc m * 100 = (d * (m / d) + m % d) * 100 := by rw [e1]
      _ = d * (m / d * 100) + m % d * 10 * 10 := by rw [Nat.add_mul, Nat.mul_assoc, Nat.mul_assoc]
      _ = d * (m / d * 100) + (d * (m % d * 10 / d) + m % d * 10 % d) * 10 := by rw [e2]
      _ = _ := by rw [Nat.add_mul, Nat.mul_add, Nat.mul_assoc, Nat.add_assoc]
  rw [e3, Nat.mul_add_div h, Nat.add_assoc]

theorem step_lo {k r d : Nat} (h : k * r % d + r < d) : (k + 1) * r % d = k * r % d + r ∧ (k + 1) * r / d = k * r / d := by
  have e : (k + 1) * r = d * (k * r / d) + (k * r % d + r) := by
    have := Nat.div_add_mod (k * r) d
    rw [Nat.add_mul, Nat.one_mul]; omega
  constructor
  · rw [e, Nat.mul_add_mod, Nat.mod_eq_of_lt h]
  · rw [e, Nat.mul_add_div (by omega), Nat.div_eq_of_lt h, Nat.add_zero]
theorem step_hi {k r d : Nat} (hd : 0 < d) (hr : r < d) (h : d ≤ k * r % d + r) : (k + 1) * r % d = k * r % d + r - d ∧ (k + 1) * r / d = k * r / d + 1 := by
  have hs := Nat.mod_lt (k * r) hd
  have e : (k + 1) * r = d * (k * r / d + 1) + (k * r % d + r - d) := by
    have := Nat.div_add_mod (k * r) d
    rw [Nat.add_mul, Nat.one_mul, Nat.mul_add, Nat.mul_one]; omega
  have hl : k * r % d + r - d < d := by omega
  constructor
  · rw [e, Nat.mul_add_mod, Nat.mod_eq_of_lt hl]
  · rw [e, Nat.mul_add_div hd, Nat.div_eq_of_lt hl, Nat.add_zero]
/-- figure by figure -/
def pst (m d : Nat) : Nat → Nat × Nat
  | 0 => (m / d, m % d)
  | i + 1 => ((pst m d i).1 * 10 + 10 * (pst m d i).2 / d, 10 * (pst m d i).2 % d)
theorem pst_lt {m d : Nat} (hd : 0 < d) : ∀ i, (pst m d i).2 < d
  | 0 => Nat.mod_lt _ hd
  | i + 1 => Nat.mod_lt _ hd
theorem pst_two {m d : Nat} (hd : 0 < d) : (pst m d 2).1 = m * 100 / d := by
  rw [← perc_div m d hd]
  simp only [pst, Nat.mul_comm 10]
  omega
theorem pst_le {m d : Nat} (hd : 0 < d) (hm : m ≤ d) : ∀ i, i ≤ 2 → (pst m d i).1 ≤ 10000 := by
  have h0 : m / d ≤ 1 := by
    rw [Nat.div_le_iff_le_mul_add_pred hd]; omega
  have hst : ∀ r, r < d → 10 * r / d ≤ 9 := fun r hr => by
    have : 10 * r / d < 10 := by rw [Nat.div_lt_iff_lt_mul hd]; omega
    omega
  intro i hi
  have e0 : (pst m d 0).1 ≤ 1 := h0
  have e1 : (pst m d 1).1 = (pst m d 0).1 * 10 + 10 * (pst m d 0).2 / d := rfl
  have e2 : (pst m d 2).1 = (pst m d 1).1 * 10 + 10 * (pst m d 1).2 / d := rfl
  have g0 := hst _ (pst_lt (m := m) hd 0)
  have g1 := hst _ (pst_lt (m := m) hd 1)
  match i, hi with
  | 0, _ => omega
  | 1, _ => omega
  | 2, _ => omega

set_option maxHeartbeats 1000000 in
set_option maxRecDepth 100000 in
theorem refPercent_calls (a b : Int) (w : World) (ha : -9223372036854775808 ≤ a ∧ a ≤ 9223372036854775807) (hb : -9223372036854775808 ≤ b ∧ b ≤ 9223372036854775807) :
    Calls Tryd.prog 17 #[.int .i64 a, .int .i64 b] w fun e w' => e = .returned (.int .i64 (perc a b)) ∧ ∃ n, w' = w.drewN n := by
  obtain ⟨ha1, ha2⟩ := ha
  obtain ⟨hb1, hb2⟩ := hb
  by_cases h1 : b < 1
  · have HP := Lib.hid (show perc a b = 0 by unfold perc; rw [if_pos (.inl h1)])
    go_enter Tryd.func17, Tryd.ntmps17
    go_wp2
    go_ret
    exact ⟨by rw [HP.out]; rfl, 0, rfl⟩
  · by_cases h2 : a < 0
    · have HP := Lib.hid (show perc a b = 0 by unfold perc; rw [if_pos (.inr h2)])
      go_enter Tryd.func17, Tryd.ntmps17
      go_wp2
      go_ret
      exact ⟨by rw [HP.out]; rfl, 0, rfl⟩
    · by_cases h3 : a > b
      · have HP := Lib.hid (show perc a b = 100 by unfold perc; rw [if_neg (by omega), if_pos h3])
        go_enter Tryd.func17, Tryd.ntmps17
        go_wp2
        go_ret
        exact ⟨by rw [HP.out]; rfl, 0, rfl⟩
      · obtain ⟨m, rfl⟩ := Int.eq_ofNat_of_zero_le (Int.not_lt.1 h2)
        obtain ⟨d, rfl⟩ : ∃ d : Nat, b = d := ⟨b.toNat, by omega⟩
        have hd0 : 0 < d := by omega
        have HP := Lib.hid (show perc m d = ((pst m d 2).1 : Nat) by
          unfold perc
          rw [if_neg (by omega), if_neg h3, pst_two hd0]
          simp)
        have HLE := Lib.hid (pst_le hd0 (by omega : m ≤ d))
        have HLT := Lib.hid (pst_lt (m := m) hd0)
        have HST := Lib.hid (show ∀ i, (pst m d (i + 1)).1 = (pst m d i).1 * 10 + 10 * (pst m d i).2 / d ∧ (pst m d (i + 1)).2 = 10 * (pst m d i).2 % d from fun i => ⟨rfl, rfl⟩)
        have hq : (m : Int) / d = ((pst m d 0).1 : Nat) := by simp [pst]
        have hr : (m : Int) % d = ((pst m d 0).2 : Nat) := by simp [pst]
        have hq1 : (((pst m d 0).1 : Nat) : Int) ≤ 10000 := by have := HLE.out 0 (by omega); omega
        have hD := Lib.hid hd0
        have HR0 := Lib.hid hr
        have HQ0 := Lib.hid hq
        clear hd0
        generalize pst m d = P at *
        go_enter Tryd.func17, Tryd.ntmps17
        go_wp2
        go_region
        go_wp2
        clear hq hr hq1
        go_loopw [6, 7, 8] (fun v6 v7 v8 wr => ∃ i : Nat, v8 = .int .i64 i ∧ i ≤ 2 ∧ v7 = .int .i64 (P i).1 ∧ v6 = .int .u64 (P i).2 ∧ wr = w.drew) (fun _ _ i _ => 2 - (intOf i).toNat)
        case atStart => exact ⟨0, rfl, by omega, rfl, congrArg (Value.int IntKind.u64) HR0.out, rfl⟩
        case round =>
          obtain ⟨i, rfl, hi, rfl, rfl, rfl⟩ := hrel
          by_cases hlt : i < 2
          · have hli : (i : Int) < 2 := by omega
            have HS := HST.out i
            have hr := HLT.out i
            have hr' : ((P i).2 : Int) < d := by omega
            have ho := HLE.out i (by omega)
            have ho' : (((P i).1 : Nat) : Int) ≤ 10000 := by omega
            have ho2 := HLE.out (i + 1) (by omega)
            rw [HS.1] at ho2
            have HO2 := Lib.hid ho2
            have HSS := Lib.hid HS
            have HI := Lib.hid hlt
            have HRR := Lib.hid hr
            clear HS hr ho ho2 hlt hi
            generalize (P i).1 = out at *
            generalize hrr : (P i).2 = r at *
            clear hrr
            go_wp2
            go_loopw [9, 10, 11] (fun v9 v10 v11 wr => ∃ k : Nat, v11 = .int .i64 k ∧ k ≤ 10 ∧ v9 = .int .i64 (k * r / d : Nat) ∧ v10 = .int .u64 (k * r % d : Nat) ∧ wr = w.drew) (fun _ _ k _ => 10 - (intOf k).toNat)
            case atStart => exact ⟨0, rfl, by omega, by simp, by simp, rfl⟩
            case round =>
              obtain ⟨k, rfl, hk, rfl, rfl, rfl⟩ := hrel
              have hs1 : (k * r % d : Nat) < d := Nat.mod_lt _ hD.out
              have hf1 : k * r / d ≤ 10 := by
                have := HRR.out
                rw [Nat.div_le_iff_le_mul_add_pred hD.out]
                have h3 : k * r ≤ 10 * d := Nat.mul_le_mul hk (by omega)
                omega
              by_cases hk10 : k < 10
              · have hk' : (k : Int) < 10 := by omega
                by_cases hge : d ≤ k * r % d + r
                · obtain ⟨g1, g2⟩ := step_hi hD.out HRR.out hge
                  have G1 := Lib.hid g1
                  have G2 := Lib.hid g2
                  have HK := Lib.hid hk10
                  have hge' : (d : Int) ≤ ((k * r % d : Nat) : Int) + r := by omega
                  have hs' : ((k * r % d : Nat) : Int) < d := by omega
                  have hf' : ((k * r / d : Nat) : Int) ≤ 10 := by omega
                  have HGE := Lib.hid hge
                  clear g1 g2 hk hk10 hge hs1 hf1
                  generalize k * r % d = s at *
                  generalize k * r / d = f at *
                  go_wp2
                  go_roundw
                  case rel => exact ⟨k + 1, by go_num, by have := HK.out; omega, by rw [G2.out]; go_num, by rw [G1.out]; congr 1; have := HGE.out; omega, trivial⟩
                  case measure => have := HK.out; simp [intOf]; omega
                · obtain ⟨g1, g2⟩ := step_lo (k := k) (r := r) (d := d) (by omega)
                  have G1 := Lib.hid g1
                  have G2 := Lib.hid g2
                  have HK := Lib.hid hk10
                  have hge' : ¬ (d : Int) ≤ ((k * r % d : Nat) : Int) + r := by omega
                  have hs' : ((k * r % d : Nat) : Int) < d := by omega
                  have hf' : ((k * r / d : Nat) : Int) ≤ 10 := by omega
                  clear g1 g2 hk hk10 hge hs1 hf1
                  generalize k * r % d = s at *
                  generalize k * r / d = f at *
                  go_wp2
                  go_roundw
                  case rel => exact ⟨k + 1, by go_num, by have := HK.out; omega, by rw [G2.out], by rw [G1.out]; go_num, trivial⟩
                  case measure => have := HK.out; simp [intOf]; omega
              · obtain rfl : k = 10 := by omega
                have hf' : ((10 * r / d : Nat) : Int) ≤ 10 := by omega
                have hs' : ((10 * r % d : Nat) : Int) < d := by omega
                clear hs1 hf1 hk hk10
                generalize 10 * r % d = s at *
                generalize 10 * r / d = f at *
                go_wp2
                go_roundw
                case rel => exact ⟨i + 1, by go_num, by have := HI.out; omega, by rw [HSS.out.1]; go_num, by rw [HSS.out.2], trivial⟩
                case measure => have := HI.out; simp [intOf]; omega
          · obtain rfl : i = 2 := by omega
            have ho' : (((P 2).1 : Nat) : Int) ≤ 10000 := by have := HLE.out 2 (by omega); omega
            clear hlt hi
            go_wp2
            go_ret
            exact ⟨by rw [HP.out]; rfl, 1, rfl⟩
end Go.Proofs.YtolaecdopfmbgaaDoor
