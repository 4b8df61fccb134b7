/- The reference's Right tells what glob.Right tells, for strings of at most 140737488351232 bytes. -/
import Derived.Test.YtolaecdopfmbgaaDoorGlQ
namespace Go.Proofs.YtolaecdopfmbgaaDoor.Gl
open Go.RowKit

theorem headG_ok {c : UInt8} (h : c ≠ 91) (r : List UInt8) : (headG c r).1.ok = true ∧ (headG c r).2 = 0 := by
  unfold headG
  by_cases h1 : c = 42
  · rw [if_pos h1]; exact ⟨rfl, rfl⟩
  · rw [if_neg h1]
    by_cases h2 : c = 63
    · rw [if_pos h2]; exact ⟨rfl, rfl⟩
    · rw [if_neg h2, if_neg h]; exact ⟨rfl, rfl⟩
theorem headG_open (r : List UInt8) (h : endG r < 0) : (headG 91 r).1.ok = false := by
  unfold headG; rw [if_neg (by decide), if_neg (by decide), if_pos rfl, if_neg (by omega)]
theorem headG_class (r : List UInt8) (m : Nat) (h : endG r = m) : headG 91 r = (⟨false, (classG (r.take m)).1, (classG (r.take m)).2⟩, m + 1) := by
  unfold headG; rw [if_neg (by decide), if_neg (by decide), if_pos rfl, h, if_pos (by omega), Int.toNat_natCast]
theorem partsL_at (s : ByteArray) (k : Nat) (h : k < s.size) : partsL (s.data.toList.drop k) = (headG s[k] (s.data.toList.drop (k + 1))).1 :: partsL (s.data.toList.drop (k + 1 + (headG s[k] (s.data.toList.drop (k + 1))).2)) := by
  rw [drop_cons s k h, partsL, List.drop_drop]

set_option maxHeartbeats 1000000 in
theorem right7_calls (p : ByteArray) (w : World) (hp : p.size ≤ 140737488351232) :
    Calls Tryd.prog 46 #[.string p] w fun e w' => e = .returned (.int .i64 (rightG p.data.toList)) ∧ ∃ n, w' = w.drewN n := by
  have hlen : p.data.toList.length = p.size := by simp
  by_cases hl : 64 < p.size
  · have hR : rightG p.data.toList = 18 := by unfold rightG; rw [hlen, if_pos hl]
    have HR := Lib.hid hR
    clear hR hlen
    have hl' : (64 : Int) < p.size := by omega
    clear hl
    go_enter Tryd.func46, Tryd.ntmps46
    go_wp2
    go_ret
    exact ⟨ret_int HR.out.symm, 0, rfl⟩
  · have hR : rightG p.data.toList = if (partsL p.data.toList).all (·.ok) then 0 else 3 := by unfold rightG; rw [hlen, if_neg hl]
    have HR := Lib.hid hR
    have HLEN := Lib.hid hlen
    clear hR hlen
    have hl' : ¬ (64 : Int) < p.size := by omega
    have h64 : p.size ≤ 140737488351232 := by omega
    clear hl
    go_enter Tryd.func46, Tryd.ntmps46
    go_wp2_with fail
    go_loopw [3] (fun i wr => ∃ k : Nat, i = .int .i64 k ∧ k ≤ p.size ∧ Hid ((partsL p.data.toList).all (·.ok) = (partsL (p.data.toList.drop k)).all (·.ok)) ∧ ∃ n, wr = w.drewN n) (fun i _ => p.size - (intOf i).toNat)
    case atStart => exact ⟨0, rfl, by omega, rfl, 0, rfl⟩
    case round =>
      obtain ⟨k, rfl, hk, HK, n, rfl⟩ := hrel
      by_cases h1 : k < p.size
      · have e := nat_beq (a := p[k]) (n := 91) 91 rfl
        have hat := partsL_at p k h1
        have HAT := Lib.hid hat
        clear hat
        by_cases h2 : p[k] = 91
        · rw [decide_eq_true h2] at e
          have hat := HAT.out
          rw [h2] at hat
          clear HAT
          have hE := endG_lt (p.data.toList.drop (k + 1))
          rw [List.length_drop, HLEN.out] at hE
          have hcl : ∀ W, Calls Tryd.prog 74 #[.string p, .int .i64 ((k : Int) + 1)] W fun e w' => e = .returned (.int .i64 (closesG p.data.toList (k + 1))) ∧ w' = W := fun W => by
            have := closes_calls p (k + 1) W hp (by omega)
            rwa [show (((k + 1 : Nat)) : Int) = (k : Int) + 1 by omega] at this
          by_cases h3 : endG (p.data.toList.drop (k + 1)) < 0
          · have hC : closesG p.data.toList (k + 1) = -1 := by unfold closesG; rw [if_pos h3]
            have hn : rightG p.data.toList = 3 := by rw [HR.out, HK.out, hat, List.all_cons, headG_open _ h3]; rfl
            rw [hC] at hcl
            have HN := Lib.hid hn
            have HCL := Lib.hid hcl
            clear hn hcl hat hC hE h3 h2
            go_wp2_with (go_at_call 74; refine (HCL.out _).mono ?_; rintro e w' ⟨rfl, rfl⟩)
            go_ret
            exact ⟨ret_int HN.out.symm, _, rfl⟩
          · obtain ⟨m, hm⟩ := Int.eq_ofNat_of_zero_le (Int.not_lt.1 h3)
            have hC : closesG p.data.toList (k + 1) = ((k + 1 + m : Nat) : Int) := by unfold closesG; rw [if_neg h3, hm]; omega
            rw [hC] at hcl
            rw [hm] at hE
            rw [headG_class _ m hm] at hat
            have hx2 : (p.extract (k + 1) (k + 1 + m)).data.toList = (p.data.toList.drop (k + 1)).take m := by rw [Lib.extract_data]; congr 1; omega
            have hin : ∀ W, Calls Tryd.prog 75 #[.string (p.extract (k + 1) (k + 1 + m)), .int .u8 0] W fun e w' => e = .returned (.tuple #[.bool ((classG ((p.data.toList.drop (k + 1)).take m)).1 0), .bool (classG ((p.data.toList.drop (k + 1)).take m)).2]) ∧ ∃ n, w' = W.drewN n := fun W => by
              have := in_calls (p.extract (k + 1) (k + 1 + m)) 0 W (by simp; omega) (by omega) (by omega)
              rwa [hx2] at this
            have hko : (partsL p.data.toList).all (·.ok) = ((classG ((p.data.toList.drop (k + 1)).take m)).2 && (partsL (p.data.toList.drop (k + 1 + (m + 1)))).all (·.ok)) := by
              rw [HK.out, hat, List.all_cons]
            have hkm : (k : Int) + 2 + m ≤ p.size := by omega
            generalize classG ((p.data.toList.drop (k + 1)).take m) = C at *
            have HC := Lib.hid hC
            have HCL := Lib.hid hcl
            have HIN := Lib.hid hin
            have HKO := Lib.hid hko
            clear hC hcl hin hat hE hx2 hko h2 hm h3
            cases hok : C.2
            · have HOK := Lib.hid hok
              go_wp2_with (first | (go_at_call 74; refine (HCL.out _).mono ?_; rintro e w' ⟨rfl, rfl⟩) | (go_at_call 75; refine (HIN.out _).mono ?_; rintro e w' ⟨rfl, n2, rfl⟩))
              go_ret
              exact ⟨ret_int (by rw [HR.out, HKO.out, HOK.out]; rfl), n + n2, by first | rfl | rw [World.drewN_drewN]⟩
            · have HOK := Lib.hid hok
              go_wp2_with (first | (go_at_call 74; refine (HCL.out _).mono ?_; rintro e w' ⟨rfl, rfl⟩) | (go_at_call 75; refine (HIN.out _).mono ?_; rintro e w' ⟨rfl, n2, rfl⟩))
              go_roundw
              case rel => exact ⟨k + 2 + m, by go_num, by omega, by (unfold Hid; rw [HKO.out, HOK.out, Bool.true_and, show k + 1 + (m + 1) = k + 2 + m by omega]), n + n2, by first | rfl | rw [World.drewN_drewN]⟩
              case measure => simp [intOf]; omega
        · rw [decide_eq_false h2] at e
          obtain ⟨o1, o2⟩ := headG_ok h2 (p.data.toList.drop (k + 1))
          have hko : (partsL p.data.toList).all (·.ok) = (partsL (p.data.toList.drop (k + 1))).all (·.ok) := by rw [HK.out, HAT.out, List.all_cons, o1, o2]; rfl
          have HKO := Lib.hid hko
          clear hko o1 o2 h2
          go_wp2
          go_roundw
          case rel => exact ⟨k + 1, by go_num, by omega, HKO.out, n, rfl⟩
          case measure => simp [intOf]; omega
      · have hn : rightG p.data.toList = 0 := by
          rw [HR.out, HK.out, List.drop_eq_nil_of_le (by rw [HLEN.out]; omega), partsL]; rfl
        have HN := Lib.hid hn
        clear hn
        go_wp2
        go_ret
        exact ⟨ret_int HN.out.symm, n, rfl⟩
end Go.Proofs.YtolaecdopfmbgaaDoor.Gl
