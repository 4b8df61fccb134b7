/- bits.Div64: where the quotient fits. -/
import Derived.Deep.CutBlock
import Derived.Deep.CutRange
import Derived.Test.YtolaecdopfmbgaaDoorBd
namespace Go.Proofs.YtolaecdopfmbgaaDoor
open Go.RowKit

theorem un_wrap {U V1 A R : Int} (h : U * 4294967296 + V1 = A + R) (h0 : 0 ≤ R) (h1 : R < 18446744073709551616) : IntKind.u64.wrap (IntKind.u64.wrap (IntKind.u64.wrap (U * 4294967296) + V1) - IntKind.u64.wrap A) = R := by
  rw [IntKind.wrap_u64, IntKind.wrap_u64, IntKind.wrap_u64, IntKind.wrap_u64]
  omega
theorem cast_eq {U V Q Y R : Nat} (e : U * 4294967296 + V = Q * Y + R) : (U : Int) * 4294967296 + V = (Q : Int) * (Y : Int) + R := by
  have h := congrArg Int.ofNat e
  have h1 : Int.ofNat (U * 4294967296 + V) = (U : Int) * 4294967296 + V := rfl
  have h2 : Int.ofNat (Q * Y + R) = (Q : Int) * (Y : Int) + R := rfl
  rw [h1, h2] at h
  exact h
theorem cast_mod (lo s : Nat) : ((lo : Int) * 2 ^ s) % 18446744073709551616 = ((lo * 2 ^ s % 18446744073709551616 : Nat) : Int) := by
  first
  | (rw [Int.natCast_emod, Int.natCast_mul, Int.natCast_pow]; rfl)
  | (rw [Int.natCast_mod, Int.natCast_mul, Int.natCast_pow]; rfl)
theorem cast_mul (y s : Nat) : (y : Int) * 2 ^ s = ((y * 2 ^ s : Nat) : Int) := by rw [Int.natCast_mul, Int.natCast_pow]; rfl
theorem cast_div (lo s : Nat) : (lo : Int) / 2 ^ (64 - s) = ((lo / 2 ^ (64 - s) : Nat) : Int) := by
  first
  | (rw [Int.natCast_ediv, Int.natCast_pow]; rfl)
  | (rw [Int.natCast_div, Int.natCast_pow]; rfl)

set_option maxHeartbeats 2000000 in
set_option maxRecDepth 100000 in
theorem div64_calls (hi lo y : Nat) (w : World) (hy : y < 18446744073709551616) (hh : hi < y) (hlo : lo < 18446744073709551616) :
    Calls Tryd.prog 35 #[.int .u64 hi, .int .u64 lo, .int .u64 y] w fun e w' => (∃ r : Int, e = .returned (.tuple #[.int .u64 ((hi * 18446744073709551616 + lo) / y : Nat), .int .u64 r])) ∧ ∃ n, w' = w.drewN n := by
  have hy' : (y : Int) < 18446744073709551616 := by omega
  have hh' : (hi : Int) < y := by omega
  have hlo' : (lo : Int) < 18446744073709551616 := by omega
  have hh2 : ¬ (y : Int) ≤ hi := by omega
  have hy0 : ((y : Int) == 0) = false := by rw [beq_eq_false_iff_ne]; omega
  have hyp : (0 : Int) < y := by omega
  by_cases h0 : hi = 0
  · have hle : lo / y ≤ lo := Nat.div_le_self _ _
    obtain ⟨q, hq, gq⟩ : ∃ q : Nat, (lo : Int) / y = (q : Int) ∧ q = lo / y := ⟨_, by simp, rfl⟩
    have hq1 : (q : Int) < 18446744073709551616 := by omega
    have hq0 : ((hi : Int) == 0) = true := by rw [beq_iff_eq]; omega
    have HG := Lib.hid (show (hi * 18446744073709551616 + lo) / y = q by rw [h0, gq, Nat.zero_mul, Nat.zero_add])
    clear hy hh hlo hle gq h0
    go_enter Tryd.func35, Tryd.ntmps35
    go_wp2
    go_region
    go_wp2
    go_ret2
    exact ⟨⟨_, by rw [HG.out]; rfl⟩, 1, rfl⟩
  · have hq0 : ((hi : Int) == 0) = false := by rw [beq_eq_false_iff_ne]; omega
    have e64 : (2 : Nat) ^ 64 = 18446744073709551616 := by decide
    have hy64 : y < 2 ^ 64 := by rw [e64]; exact hy
    have hlo64 : lo < 2 ^ 64 := by rw [e64]; exact hlo
    obtain ⟨s, hs, hbl, hY1, hY2⟩ := shift_is (y := y) (by omega) hy64
    have h59 := fun w => Tryd.bits_LeadingZeros64 y w (by omega) (by omega)
    rw [Int.toNat_natCast, show (64 : Int) - (Lib.bitLen y : Int) = (s : Int) by omega] at h59
    have hUlt := shift_lt (lo := lo) hs hh hlo64
    have hquo := shift_two (hi := hi) (lo := lo) (y := y) hs (by omega)
    have hH2 : hi * 2 ^ s < 2 ^ 64 := Nat.lt_of_le_of_lt (Nat.le_add_right _ _) (Nat.lt_trans hUlt hY2)
    have hLlt : lo / 2 ^ (64 - s) < 2 ^ s := by
      rw [Nat.div_lt_iff_lt_mul (Nat.two_pow_pos _), ← Nat.pow_add, show s + (64 - s) = 64 by omega]
      exact hlo64
    have hor := or_shift hs (Nat.mul_mod_left hi (2 ^ s)) hH2 hLlt
    have hVlt : lo * 2 ^ s % 2 ^ 64 < 2 ^ 64 := Nat.mod_lt _ (by decide)
    have hVe : IntKind.u64.wrap ((lo : Int) * 2 ^ s) = ((lo * 2 ^ s % 2 ^ 64 : Nat) : Int) := by
      rw [IntKind.wrap_u64, e64, cast_mod]
    have hYe : (y : Int) * 2 ^ s = ((y * 2 ^ s : Nat) : Int) := cast_mul y s
    have hHe : (hi : Int) * 2 ^ s = ((hi * 2 ^ s : Nat) : Int) := cast_mul hi s
    have hLe : (lo : Int) / 2 ^ (64 - s) = ((lo / 2 ^ (64 - s) : Nat) : Int) := cast_div lo s
    have hYand := and_low hY2
    have hVand := and_low hVlt
    have e63 : (2 : Nat) ^ 63 = 9223372036854775808 := by decide
    rw [e63] at hY1
    simp only [e64] at hY2 hVlt hH2
    have hU64 : hi * 2 ^ s + lo / 2 ^ (64 - s) < 18446744073709551616 := Nat.lt_trans hUlt hY2
    have hmin : min s 64 = s := Nat.min_eq_left (by omega)
    have hmin2 : min (64 - s) 64 = 64 - s := Nat.min_eq_left (by omega)
    have htn : ((64 : Int) - (s : Int)).toNat = 64 - s := by omega
    have hs1 : (s : Int) ≤ 63 := by omega
    simp only [e64] at hVe hVand hquo
    have HU := Lib.hid hUlt
    have HQUO := Lib.hid hquo
    clear hUlt hquo hLlt e64 e63 hbl hs hy64 hlo64
    generalize hi * 2 ^ s = Hh at *
    generalize lo / 2 ^ (64 - s) = Lh at *
    generalize lo * 2 ^ s % 18446744073709551616 = V at *
    generalize y * 2 ^ s = Y at *
    generalize hUU : Hh + Lh = U at *
    have hH2' : (Hh : Int) < 18446744073709551616 := by omega
    have hY2' : (Y : Int) < 18446744073709551616 := by omega
    have hV' : (V : Int) < 18446744073709551616 := by omega
    have hU' : (U : Int) < 18446744073709551616 := by omega
    have hY1' : (9223372036854775808 : Int) ≤ Y := by omega
    obtain ⟨Y1, hY1e, gY1⟩ : ∃ Y1 : Nat, (Y : Int) / 4294967296 = (Y1 : Int) ∧ Y1 = Y / 4294967296 := ⟨_, by simp, rfl⟩
    obtain ⟨V1, hV1e, gV1⟩ : ∃ V1 : Nat, (V : Int) / 4294967296 = (V1 : Int) ∧ V1 = V / 4294967296 := ⟨_, by simp, rfl⟩
    obtain ⟨Y0, gY0⟩ : ∃ Y0 : Nat, Y0 = Y % 4294967296 := ⟨_, rfl⟩
    obtain ⟨V0, gV0⟩ : ∃ V0 : Nat, V0 = V % 4294967296 := ⟨_, rfl⟩
    rw [← gY0] at hYand
    rw [← gV0] at hVand
    have hY1p : (2147483648 : Int) ≤ Y1 := by omega
    have hY1q : (Y1 : Int) < 4294967296 := by omega
    have hY0q : (Y0 : Int) < 4294967296 := by omega
    have hV1q : (V1 : Int) < 4294967296 := by omega
    have hV0q : (V0 : Int) < 4294967296 := by omega
    have GY1 := Lib.hid gY1
    have GV1 := Lib.hid gV1
    have GY0 := Lib.hid gY0
    have GV0 := Lib.hid gV0
    clear gY1 gV1 gY0 gV0
    have H59 := Lib.hid h59
    have HY := Lib.hid hY1
    have HY2 := Lib.hid hY2
    have HV := Lib.hid hVlt
    clear h59 hY1 hY2 hVlt hUU hH2 hU64 hy hh hlo
    go_enter Tryd.func35, Tryd.ntmps35
    go_upto_region 15 with (first | (go_at_call 59; refine (H59.out _).mono ?_; rintro e w1 ⟨rfl, rfl⟩))
    have gsum : Y = Y1 * 4294967296 + Y0 := by have := GY1.out; have := GY0.out; omega
    have GS := Lib.hid gsum
    have hUn : U < Y1 * 4294967296 + Y0 := by rw [← gsum]; exact HU.out
    have HUn := Lib.hid hUn
    have hfirst := digQ_first (y1 := Y1) (y0 := Y0) (by omega) (by omega) hUn
    have hge := digQ_le (u := U) (u1 := V1) (y1 := Y1) (y0 := Y0) (by omega) (by omega)
    have hdm := Nat.div_add_mod U Y1
    have hrlt := Nat.mod_lt U (show Y1 > 0 by omega)
    have HQ1 := Lib.hid (show digQ U V1 Y1 Y0 < 4294967296 from digQ_lt (by omega) hUn)
    obtain ⟨q, hq, gq⟩ : ∃ q : Nat, (U : Int) / Y1 = (q : Int) ∧ q = U / Y1 := ⟨_, by simp, rfl⟩
    obtain ⟨r, gr⟩ : ∃ r : Nat, r = U % Y1 := ⟨_, rfl⟩
    rw [← gq] at hfirst hge hdm
    rw [← gr] at hdm hrlt
    obtain ⟨p, hp, gp⟩ : ∃ p : Nat, (q : Int) * Y1 = (p : Int) ∧ p = q * Y1 := ⟨_, by simp, rfl⟩
    have hsub : (U : Int) - p = (r : Int) := by
      have : Y1 * q = q * Y1 := Nat.mul_comm _ _
      omega
    have hp1 : (p : Int) ≤ U := by omega
    have hqb : (q : Int) ≤ 4294967297 := by omega
    have hrb : (r : Int) < 4294967296 := by omega
    have HI0 := Lib.hid (show q * Y1 + r = U by rw [Nat.mul_comm]; exact hdm)
    have HGE0 := Lib.hid hge
    have HYP := Lib.hid (show 0 < Y1 by omega)
    have HV1 := Lib.hid (show V1 < 4294967296 by omega)
    have HY0 := Lib.hid (show Y0 < 4294967296 by omega)
    clear gsum hUn hfirst hge hdm hrlt gq gr gp
    go_upto_block 0 with (fail)
    clear hq hp hsub hp1
    go_cut [15, 16] from 67 to 85 (fun v15 v16 wc => v15 = .int .u64 (digQ U V1 Y1 Y0 : Nat) ∧ wc = w1)
    case first =>
      go_wp2_with (fail)
      go_loopw [15, 16] (fun v15 v16 wr => ∃ q r : Nat, v15 = .int .u64 q ∧ v16 = .int .u64 r ∧ (q : Int) ≤ 4294967297 ∧ (r : Int) < 4294967296 ∧ Hid (q * Y1 + r = U) ∧ Hid (digQ U V1 Y1 Y0 ≤ q) ∧ wr = w1) (fun v15 _ _ => (intOf v15).toNat)
      case atStart => exact ⟨q, r, rfl, rfl, hqb, hrb, HI0.out, HGE0.out, rfl⟩
      case round =>
        clear hqb hrb HI0 HGE0
        obtain ⟨q, r, rfl, rfl, hqb, hrb, HI, HGE, rfl⟩ := hrel
        have hr0 : (0 : Int) ≤ r := by omega
        by_cases hbig : (4294967296 : Int) ≤ q
        · obtain ⟨g1, g2, g3⟩ := digQ_step HV1.out HUn.out HI.out HGE.out (.inl (by omega))
          have G2 := Lib.hid g2
          have G3 := Lib.hid g3
          have hq1 : (1 : Int) ≤ q := by omega
          have hqs : ((q - 1 : Nat) : Int) = (q : Int) - 1 := by omega
          have HQS := Lib.hid hqs
          clear g1 g2 g3 hqs
          by_cases hfar : (4294967296 : Int) ≤ (r : Int) + Y1
          · have HEX := Lib.hid (digQ_exit HYP.out G3.out G2.out (digQ_far (by omega) HY0.out (by omega)))
            go_wp2_with (fail)
            go_meet
            case rel => exact ⟨by rw [← HEX.out, HQS.out], rfl⟩
          · go_wp2_with (fail)
            go_roundw
            case rel => exact ⟨q - 1, r + Y1, by rw [HQS.out], by go_num, by have := HQS.out; omega, by omega, G3.out, G2.out, trivial⟩
            case measure => simp [intOf]; omega
        · have hBle : q * Y0 ≤ 4294967295 * 4294967295 := Nat.mul_le_mul (by omega) (by have := HY0.out; omega)
          obtain ⟨B, hB, gB⟩ : ∃ B : Nat, (q : Int) * Y0 = (B : Int) ∧ B = q * Y0 := ⟨_, by simp, rfl⟩
          rw [← gB] at hBle
          have hB2 : (B : Int) < 18446744073709551616 := by omega
          have GB := Lib.hid gB
          clear hBle gB
          by_cases htest : (4294967296 : Int) * r + V1 < B
          · obtain ⟨g1, g2, g3⟩ := digQ_step HV1.out HUn.out HI.out HGE.out (.inr (by rw [← GB.out]; omega))
            have G2 := Lib.hid g2
            have G3 := Lib.hid g3
            have hq1 : (1 : Int) ≤ q := by omega
            have hqs : ((q - 1 : Nat) : Int) = (q : Int) - 1 := by omega
            have HQS := Lib.hid hqs
            clear g1 g2 g3 hqs
            by_cases hfar : (4294967296 : Int) ≤ (r : Int) + Y1
            · have HEX := Lib.hid (digQ_exit HYP.out G3.out G2.out (digQ_far (by omega) HY0.out (by omega)))
              go_wp2_with (fail)
              go_meet
              case rel => exact ⟨by rw [← HEX.out, HQS.out], rfl⟩
            · go_wp2_with (fail)
              go_roundw
              case rel => exact ⟨q - 1, r + Y1, by rw [HQS.out], by go_num, by have := HQS.out; omega, by omega, G3.out, G2.out, trivial⟩
              case measure => simp [intOf]; omega
          · have HEX := Lib.hid (digQ_exit (u1 := V1) (y0 := Y0) HYP.out HI.out HGE.out (by rw [← GB.out]; omega))
            go_wp2_with (fail)
            go_meet
            case rel => exact ⟨by rw [← HEX.out], rfl⟩
    case rest =>
      obtain ⟨rfl, rfl⟩ := hcut
      clear hqb hrb HI0 HGE0
      have HUV := Lib.hid (show (U * 4294967296 + V1) / Y = digQ U V1 Y1 Y0 by rw [GS.out]; rfl)
      have hdm := Nat.div_add_mod (U * 4294967296 + V1) Y
      have hrlt := Nat.mod_lt (U * 4294967296 + V1) (show Y > 0 by omega)
      rw [HUV.out] at hdm
      generalize digQ U V1 Y1 Y0 = Q1 at *
      obtain ⟨R, gR⟩ : ∃ R : Nat, R = (U * 4294967296 + V1) % Y := ⟨_, rfl⟩
      rw [← gR] at hdm hrlt
      have hcast := cast_eq (show U * 4294967296 + V1 = Q1 * Y + R by rw [Nat.mul_comm Q1]; exact hdm.symm)
      have hR' : (R : Int) < Y := by omega
      have hR0 : (0 : Int) ≤ R := by omega
      have hun := un_wrap hcast hR0 (by omega)
      have GR := Lib.hid gR
      have HRn := Lib.hid (show R < Y1 * 4294967296 + Y0 by rw [← GS.out]; exact hrlt)
      have hfirst := digQ_first (y1 := Y1) (y0 := Y0) (by omega) (by omega) HRn.out
      have hge := digQ_le (u := R) (u1 := V0) (y1 := Y1) (y0 := Y0) (by omega) (by omega)
      have hdm2 := Nat.div_add_mod R Y1
      have hrlt2 := Nat.mod_lt R (show Y1 > 0 by omega)
      have HQ0 := Lib.hid (show digQ R V0 Y1 Y0 < 4294967296 from digQ_lt (by omega) HRn.out)
      have HRV := Lib.hid (show (R * 4294967296 + V0) / Y = digQ R V0 Y1 Y0 by rw [GS.out]; rfl)
      obtain ⟨q, hq, gq⟩ : ∃ q : Nat, (R : Int) / Y1 = (q : Int) ∧ q = R / Y1 := ⟨_, by simp, rfl⟩
      obtain ⟨r, gr⟩ : ∃ r : Nat, r = R % Y1 := ⟨_, rfl⟩
      rw [← gq] at hfirst hge hdm2
      rw [← gr] at hdm2 hrlt2
      obtain ⟨p, hp, gp⟩ : ∃ p : Nat, (q : Int) * Y1 = (p : Int) ∧ p = q * Y1 := ⟨_, by simp, rfl⟩
      have hsub : (R : Int) - p = (r : Int) := by
        have : Y1 * q = q * Y1 := Nat.mul_comm _ _
        omega
      have hp1 : (p : Int) ≤ R := by omega
      have hqb : (q : Int) ≤ 4294967297 := by omega
      have hrb : (r : Int) < 4294967296 := by omega
      have HI0 := Lib.hid (show q * Y1 + r = R by rw [Nat.mul_comm]; exact hdm2)
      have HGE0 := Lib.hid hge
      have HV0 := Lib.hid (show V0 < 4294967296 by omega)
      clear hfirst hge hdm hrlt gq gr gp gR hcast hdm2 hrlt2
      go_upto_block 2 with (fail)
      clear hq hp hsub hp1 hun
      go_cut [18, 16] from 102 to 120 (fun v18 v16 wd => v18 = .int .u64 (digQ R V0 Y1 Y0 : Nat) ∧ wd = wc)
      case first =>
        go_wp2_with (fail)
        go_loopw [18, 16] (fun v18 v16 wr => ∃ q r : Nat, v18 = .int .u64 q ∧ v16 = .int .u64 r ∧ (q : Int) ≤ 4294967297 ∧ (r : Int) < 4294967296 ∧ Hid (q * Y1 + r = R) ∧ Hid (digQ R V0 Y1 Y0 ≤ q) ∧ wr = wc) (fun v18 _ _ => (intOf v18).toNat)
        case atStart => exact ⟨q, r, rfl, rfl, hqb, hrb, HI0.out, HGE0.out, rfl⟩
        case round =>
          clear hqb hrb HI0 HGE0
          obtain ⟨q, r, rfl, rfl, hqb, hrb, HI, HGE, rfl⟩ := hrel
          have hr0 : (0 : Int) ≤ r := by omega
          by_cases hbig : (4294967296 : Int) ≤ q
          · obtain ⟨g1, g2, g3⟩ := digQ_step HV0.out HRn.out HI.out HGE.out (.inl (by omega))
            have G2 := Lib.hid g2
            have G3 := Lib.hid g3
            have hq1 : (1 : Int) ≤ q := by omega
            have hqs : ((q - 1 : Nat) : Int) = (q : Int) - 1 := by omega
            have HQS := Lib.hid hqs
            clear g1 g2 g3 hqs
            by_cases hfar : (4294967296 : Int) ≤ (r : Int) + Y1
            · have HEX := Lib.hid (digQ_exit HYP.out G3.out G2.out (digQ_far (by omega) HY0.out (by omega)))
              go_wp2_with (fail)
              go_meet
              case rel => exact ⟨by rw [← HEX.out, HQS.out], rfl⟩
            · go_wp2_with (fail)
              go_roundw
              case rel => exact ⟨q - 1, r + Y1, by rw [HQS.out], by go_num, by have := HQS.out; omega, by omega, G3.out, G2.out, trivial⟩
              case measure => simp [intOf]; omega
          · have hBle : q * Y0 ≤ 4294967295 * 4294967295 := Nat.mul_le_mul (by omega) (by have := HY0.out; omega)
            obtain ⟨B, hB, gB⟩ : ∃ B : Nat, (q : Int) * Y0 = (B : Int) ∧ B = q * Y0 := ⟨_, by simp, rfl⟩
            rw [← gB] at hBle
            have hB2 : (B : Int) < 18446744073709551616 := by omega
            have GB := Lib.hid gB
            clear hBle gB
            by_cases htest : (4294967296 : Int) * r + V0 < B
            · obtain ⟨g1, g2, g3⟩ := digQ_step HV0.out HRn.out HI.out HGE.out (.inr (by rw [← GB.out]; omega))
              have G2 := Lib.hid g2
              have G3 := Lib.hid g3
              have hq1 : (1 : Int) ≤ q := by omega
              have hqs : ((q - 1 : Nat) : Int) = (q : Int) - 1 := by omega
              have HQS := Lib.hid hqs
              clear g1 g2 g3 hqs
              by_cases hfar : (4294967296 : Int) ≤ (r : Int) + Y1
              · have HEX := Lib.hid (digQ_exit HYP.out G3.out G2.out (digQ_far (by omega) HY0.out (by omega)))
                go_wp2_with (fail)
                go_meet
                case rel => exact ⟨by rw [← HEX.out, HQS.out], rfl⟩
              · go_wp2_with (fail)
                go_roundw
                case rel => exact ⟨q - 1, r + Y1, by rw [HQS.out], by go_num, by have := HQS.out; omega, by omega, G3.out, G2.out, trivial⟩
                case measure => simp [intOf]; omega
            · have HEX := Lib.hid (digQ_exit (u1 := V0) (y0 := Y0) HYP.out HI.out HGE.out (by rw [← GB.out]; omega))
              go_wp2_with (fail)
              go_meet
              case rel => exact ⟨by rw [← HEX.out], rfl⟩
      case rest =>
        obtain ⟨rfl, rfl⟩ := hcut
        clear hqb hrb HI0 HGE0
        have hfin : (hi * 18446744073709551616 + lo) / y = Q1 * 4294967296 + digQ R V0 Y1 Y0 := by
          rw [HQUO.out, ← GV1.out, ← GV0.out, HUV.out, ← GR.out, HRV.out]
        have hq1b : (Q1 : Int) < 4294967296 := by have := HQ1.out; omega
        have hq0b : ((digQ R V0 Y1 Y0 : Nat) : Int) < 4294967296 := by have := HQ0.out; omega
        have HFIN := Lib.hid hfin
        clear hfin
        generalize digQ R V0 Y1 Y0 = Q0 at *
        go_wp2_with (fail)
        go_ret2
        refine ⟨?_, 0, rfl⟩
        rw [HFIN.out]
        exact ⟨_, rfl⟩
end Go.Proofs.YtolaecdopfmbgaaDoor
