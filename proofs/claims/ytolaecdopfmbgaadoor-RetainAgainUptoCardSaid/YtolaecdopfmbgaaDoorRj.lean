/- The reference's figure, value and less: which of two parts that are not the same is ahead. Condition: parts of at most 1048576 bytes. -/
import Derived.Test.YtolaecdopfmbgaaDoorRi
namespace Go.Proofs.YtolaecdopfmbgaaDoor
open Go.RowKit Go.Shelf

theorem figure2_calls (c : UInt8) (w : World) : Calls Tryd.prog 130 #[.int .u8 c.toNat] w fun e w' => e = .returned (.bool (figB c)) ∧ w' = w := by
  have hf := Lib.hid (figB_int c)
  have hc := c.toNat_lt
  generalize hn : c.toNat = n at *
  clear hn
  go_enter Tryd.func130, Tryd.ntmps130
  go_wp2
  all_goals
    go_ret
    refine ⟨?_, rfl⟩
    rw [hf.out]
    simp_all <;> omega

theorem trimLeft_48 (r : List UInt8) : Lib.trimLeftB (48 :: r) 48 = Lib.trimLeftB r 48 := by simp [Lib.trimLeftB]
theorem trimLeft_not (c : UInt8) (r : List UInt8) (h : c ≠ 48) : Lib.trimLeftB (c :: r) 48 = c :: r := by simp [Lib.trimLeftB, h]
theorem drop_consV (t : ByteArray) (k : Nat) (h : k < t.size) : t.data.toList.drop k = t[k] :: t.data.toList.drop (k + 1) := by
  rw [List.drop_eq_getElem_cons (by simpa using h)]; rfl
def sizeOfS : Value → Nat | .string s => s.size | _ => 0
set_option maxHeartbeats 1000000 in
theorem value_calls (l : List UInt8) (w : World) (hl : l.length ≤ 1048576) : Calls Tryd.prog 131 #[.string (strV l)] w fun e w' => e = .returned (.string (strV (Lib.trimLeftB l 48))) ∧ w' = w := by
  go_enter Tryd.func131, Tryd.ntmps131
  go_wp2_with fail
  go_loop [0] (fun v => ∃ s : ByteArray, v = .string s ∧ s.size ≤ 1048576 ∧ Hid (Lib.trimLeftB l 48 = Lib.trimLeftB s.data.toList 48)) (fun v => sizeOfS v)
  case atStart => exact ⟨strV l, rfl, by rw [strV_size]; exact hl, by unfold Hid; rw [strV_data]⟩
  case round =>
    obtain ⟨s, rfl, hs, hx⟩ := hrel
    have hfin : Hid (∀ (h : Lib.trimLeftB s.data.toList 48 = s.data.toList), strV (Lib.trimLeftB l 48) = s) := fun h => by rw [hx.out, h, strV_of]
    by_cases h0 : (0 : Int) < s.size
    · have h0' : 0 < s.size := by omega
      have hc := drop_consV s 0 h0'
      rw [List.drop_zero] at hc
      have HC := Lib.hid hc
      clear hc
      by_cases h1 : s[0] = 48
      · have q : ((s[0].toNat : Int) == 48) = true := by rw [h1]; rfl
        have HS : Hid (Lib.trimLeftB l 48 = Lib.trimLeftB (s.extract 1 s.size).data.toList 48) := by
          unfold Hid
          rw [hx.out, HC.out, h1, trimLeft_48, Lib.extract_data, List.take_of_length_le (by simp)]
        clear h1
        go_wp2_with fail
        go_round
        case rel => exact ⟨_, rfl, by simp; omega, HS⟩
        case measure => simp [sizeOfS]; omega
      · have q : ((s[0].toNat : Int) == 48) = false := by
          rw [beq_eq_false_iff_ne]; intro e; exact h1 (UInt8.toNat_inj.1 (by have : s[0].toNat = 48 := by omega
                                                                             exact this))
        have HF := Lib.hid (hfin.out (by rw [HC.out]; exact trimLeft_not _ _ h1))
        clear h1
        go_wp2_with fail
        go_ret
        exact ⟨by rw [HF.out]; rfl, rfl⟩
    · have HF := Lib.hid (hfin.out (by
        have : s.data.toList = [] := List.eq_nil_of_length_eq_zero (by have e : s.data.toList.length = s.size := by simp
                                                                       omega)
        rw [this]; rfl))
      go_wp2_with fail
      go_ret
      exact ⟨by rw [HF.out]; rfl, rfl⟩
theorem less_bytes : ∀ (a b : List UInt8), Op.bytesLess a b = decide (Lib.compareBytes a b < 0)
  | [], [] => rfl
  | [], _ :: _ => rfl
  | _ :: _, [] => rfl
  | a :: x, b :: y => by
    have ih := less_bytes x y
    simp only [Op.bytesLess, Lib.compareBytes]
    by_cases h1 : a < b
    · simp [h1]
    · by_cases h2 : b < a
      · have h3 : a ≠ b := fun e => by rw [e] at h2; exact absurd h2 (by simp)
        simp [h1, h2, h3]
      · have h3 : a = b := UInt8.toNat_inj.1 (by rw [UInt8.lt_iff_toNat_lt] at h1 h2; omega)
        subst h3
        simp [ih]
/-- is a part ahead of another one, as the reference says -/
def lessP (a b : List UInt8) : Bool :=
  if figB (a.headD 0) != figB (b.headD 0) then figB (a.headD 0)
  else if !figB (a.headD 0) then Op.bytesLess a b
  else if Lib.trimLeftB a 48 = Lib.trimLeftB b 48 then decide ((a.length : Int) < b.length)
  else if (Lib.trimLeftB a 48).length = (Lib.trimLeftB b 48).length then Op.bytesLess (Lib.trimLeftB a 48) (Lib.trimLeftB b 48)
  else decide (((Lib.trimLeftB a 48).length : Int) < (Lib.trimLeftB b 48).length)
theorem lessP_eq (a b : List UInt8) : lessP a b = decide (partC a b < 0) := by
  unfold lessP partC numC
  cases figB (a.headD 0) <;> cases figB (b.headD 0)
  · simp [less_bytes]
  · simp
  · simp
  · simp only [bne_self_eq_false, Bool.false_eq_true, if_false, Bool.not_true, if_true]
    by_cases h1 : Lib.trimLeftB a 48 = Lib.trimLeftB b 48
    · rw [if_pos h1, if_neg (by rw [h1]; simp), if_neg (by simp [h1])]
      rw [decide_eq_decide]; exact (int_lt _ _).symm
    · rw [if_neg h1]
      by_cases h2 : (Lib.trimLeftB a 48).length = (Lib.trimLeftB b 48).length
      · rw [if_pos h2, if_neg (by omega), if_pos h1, less_bytes]
      · rw [if_neg h2, if_pos (by omega)]
        rw [decide_eq_decide]; exact (int_lt _ _).symm

theorem retB {a b : Bool} (h : a = b) : Ending.returned (.bool a) = .returned (.bool b) := by rw [h]
set_option maxHeartbeats 2000000 in
theorem less_aux (sa sb sx sy : ByteArray) (r : Bool) (w : World) (la' : 0 < sa.size) (lb' : 0 < sb.size) (ha : sa.size ≤ 1048576) (hb : sb.size ≤ 1048576) (hxs : sx.size ≤ 1048576) (hys : sy.size ≤ 1048576)
    (hx : ∀ w, Calls Tryd.prog 131 #[.string sa] w fun e w' => e = .returned (.string sx) ∧ w' = w)
    (hy : ∀ w, Calls Tryd.prog 131 #[.string sb] w fun e w' => e = .returned (.string sy) ∧ w' = w)
    (hp : r = if figB sa[0] != figB sb[0] then figB sa[0]
      else if !figB sa[0] then Op.bytesLess sa.toList sb.toList
      else if (sx.toList == sy.toList) = true then decide (sa.size < sb.size)
      else if ((sx.size : Int) == sy.size) = true then Op.bytesLess sx.toList sy.toList
      else decide (sx.size < sy.size)) :
    Calls Tryd.prog 101 #[.string sa, .string sb] w fun e w' => e = .returned (.bool r) ∧ ∃ n, w' = w.drewN n := by
  have la : (0 : Int) < sa.size := by omega
  have lb : (0 : Int) < sb.size := by omega
  have HX := Lib.hid hx
  have HY := Lib.hid hy
  have HP := Lib.hid hp
  have HFa := Lib.hid (fun w => figure2_calls sa[0] w)
  have HFb := Lib.hid (fun w => figure2_calls sb[0] w)
  clear hx hy hp
  generalize figB sa[0] = ga at *
  generalize figB sb[0] = gb at *
  generalize hq : (sx.toList == sy.toList) = q at *
  generalize hz : ((sx.size : Int) == sy.size) = z at *
  cases ga <;> cases gb
  · have HR := Lib.hid HP.out
    clear HP hq hz
    simp only [bne_self_eq_false, Bool.false_eq_true, if_false, Bool.not_false, if_true] at HR
    go_enter Tryd.func101, Tryd.ntmps101
    go_wp2_with fail
    go_quiet ((go_at_call 130; first | (with_reducible exact Calls.quiet_of_same (HFa.out _)) | (with_reducible exact Calls.quiet_of_same (HFb.out _))))
    go_wp2_with fail
    go_ret
    exact ⟨retB HR.out.symm, _, rfl⟩
  · have HR := Lib.hid HP.out
    clear HP hq hz
    have HR2 : Hid (r = false) := HR.out
    clear HR
    go_enter Tryd.func101, Tryd.ntmps101
    go_wp2_with fail
    go_quiet ((go_at_call 130; first | (with_reducible exact Calls.quiet_of_same (HFa.out _)) | (with_reducible exact Calls.quiet_of_same (HFb.out _))))
    go_wp2_with fail
    go_ret
    exact ⟨retB HR2.out.symm, _, rfl⟩
  · have HR := Lib.hid HP.out
    clear HP hq hz
    have HR2 : Hid (r = true) := HR.out
    clear HR
    go_enter Tryd.func101, Tryd.ntmps101
    go_wp2_with fail
    go_quiet ((go_at_call 130; first | (with_reducible exact Calls.quiet_of_same (HFa.out _)) | (with_reducible exact Calls.quiet_of_same (HFb.out _))))
    go_wp2_with fail
    go_ret
    exact ⟨retB HR2.out.symm, _, rfl⟩
  · have HR := Lib.hid HP.out
    clear HP
    simp only [bne_self_eq_false, Bool.false_eq_true, if_false, Bool.not_true] at HR
    cases q <;> cases z
    all_goals
      simp only [Bool.false_eq_true, if_false, if_true] at HR
      go_enter Tryd.func101, Tryd.ntmps101
      go_wp2_with fail
      go_quiet ((go_at_call 130; first | (with_reducible exact Calls.quiet_of_same (HFa.out _)) | (with_reducible exact Calls.quiet_of_same (HFb.out _))))
      go_wp2_with (go_at_call 131; first | ((with_reducible refine (HX.out _).mono ?_); rintro e w' ⟨rfl, rfl⟩) | ((with_reducible refine (HY.out _).mono ?_); rintro e w' ⟨rfl, rfl⟩))
      go_ret
      exact ⟨retB HR.out.symm, _, rfl⟩
theorem less_calls (a b : List UInt8) (w : World) (ha : a.length ≤ 1048576) (hb : b.length ≤ 1048576) (ha0 : a ≠ []) (hb0 : b ≠ []) :
    Calls Tryd.prog 101 #[.string (strV a), .string (strV b)] w fun e w' => e = .returned (.bool (decide (partC a b < 0))) ∧ ∃ n, w' = w.drewN n := by
  have la : 0 < (strV a).size := by rw [strV_size]; exact List.length_pos_iff.2 ha0
  have lb : 0 < (strV b).size := by rw [strV_size]; exact List.length_pos_iff.2 hb0
  have hx : (Lib.trimLeftB a 48).length ≤ a.length := (List.dropWhile_suffix _).length_le
  have hy : (Lib.trimLeftB b 48).length ≤ b.length := (List.dropWhile_suffix _).length_le
  refine less_aux (strV a) (strV b) (strV (Lib.trimLeftB a 48)) (strV (Lib.trimLeftB b 48)) _ w la lb (by rw [strV_size]; exact ha) (by rw [strV_size]; exact hb) (by rw [strV_size]; omega) (by rw [strV_size]; omega)
    (fun w => value_calls a w ha) (fun w => value_calls b w hb) ?_
  rw [← headD_strV a la, ← headD_strV b lb, ← lessP_eq]
  unfold lessP
  simp only [Lib.toList_data, strV_data, strV_size, beq_iff_eq, Int.natCast_inj, Int.ofNat_lt]
end Go.Proofs.YtolaecdopfmbgaaDoor
