/- version.figure, version.numbers and version.part answer as the plain comparison of parts does; nothing that was there changes. Conditions: parts are of at most 140737488351232 bytes, and of one byte at least. -/
import Derived.WalkKit
import Derived.OwnWalk
import Derived.BigQuiet
import Derived.Deep.QuietTactic
import Derived.WalkSpells
import Derived.WalkLawsBesides
import Derived.Lib.Hide
import Derived.Deep.DeepFit
import Derived.Outline
import Derived.Test.YtolaecdopfmbgaaDoorShelf
import Derived.Test.YtolaecdopfmbgaaDoorRb
namespace Go.Proofs.YtolaecdopfmbgaaDoor
open Go.RowKit

def strV (l : List UInt8) : ByteArray := ⟨l.toArray⟩
theorem strV_data (l : List UInt8) : (strV l).data.toList = l := by simp [strV]
theorem strV_size (l : List UInt8) : (strV l).size = l.length := by simp [strV, ByteArray.size]
theorem strV_of (s : ByteArray) : strV s.data.toList = s := by simp [strV]
theorem retI {k : IntKind} {a b : Int} (h : a = b) : Ending.returned (.int k a) = .returned (.int k b) := by rw [h]

theorem figB_int (c : UInt8) : figB c = (decide ((48 : Int) ≤ c.toNat) && decide ((c.toNat : Int) ≤ 57)) := by
  unfold figB
  congr 1
  · rw [decide_eq_decide, UInt8.le_iff_toNat_le]; simp; omega
  · rw [decide_eq_decide, UInt8.le_iff_toNat_le]; simp; omega
set_option maxHeartbeats 400000 in
theorem figure_calls (c : UInt8) (w : World) : Calls Tryd.prog 127 #[.int .u8 c.toNat] w fun e w' => e = .returned (.bool (figB c)) ∧ w' = w := by
  have hf := Lib.hid (figB_int c)
  have hc := c.toNat_lt
  generalize hn : c.toNat = n at *
  clear hn
  go_enter Tryd.func127, Tryd.ntmps127
  go_wp2
  all_goals
    go_ret
    refine ⟨?_, rfl⟩
    rw [hf.out]
    simp_all <;> omega

theorem trimL (l : List UInt8) (w : World) : Calls Tryd.prog 162 #[.string (strV l), .string ⟨#[48]⟩] w fun e w' => e = .returned (.string (strV (Lib.trimLeftB l 48))) ∧ w' = w := by
  have := Tryd.strings_TrimLeft_one (strV l) 48 (by decide) w
  rw [strV_data] at this
  exact this

set_option maxHeartbeats 1000000 in
theorem numbers_calls (a b : List UInt8) (w : World) (ha : a.length ≤ 140737488351232) (hb : b.length ≤ 140737488351232) :
    Calls Tryd.prog 128 #[.string (strV a), .string (strV b)] w fun e w' => e = .returned (.int .i64 (numC a b)) ∧ w' = w := by
  have hx : (Lib.trimLeftB a 48).length ≤ a.length := (List.dropWhile_suffix _).length_le
  have hy : (Lib.trimLeftB b 48).length ≤ b.length := (List.dropWhile_suffix _).length_le
  have ea := strV_size a
  have eb := strV_size b
  have ex := strV_size (Lib.trimLeftB a 48)
  have ey := strV_size (Lib.trimLeftB b 48)
  have T1 := fun w => trimL a w
  have T2 := fun w => trimL b w
  have hC := fun w => Tryd.strings_Compare (strV (Lib.trimLeftB a 48)) (strV (Lib.trimLeftB b 48)) w
  rw [strV_data, strV_data] at hC
  have hne : (strV (Lib.trimLeftB a 48) = strV (Lib.trimLeftB b 48)) ↔ Lib.trimLeftB a 48 = Lib.trimLeftB b 48 := ⟨fun e => by rw [← strV_data (Lib.trimLeftB a 48), e, strV_data], fun e => by rw [e]⟩
  have hn : numC a b = if (Lib.trimLeftB a 48).length ≠ (Lib.trimLeftB b 48).length then Lib.compareInt (Lib.trimLeftB a 48).length (Lib.trimLeftB b 48).length
    else if Lib.trimLeftB a 48 ≠ Lib.trimLeftB b 48 then Lib.compareBytes (Lib.trimLeftB a 48) (Lib.trimLeftB b 48) else Lib.compareInt a.length b.length := rfl
  generalize numC a b = r at *
  generalize Lib.trimLeftB a 48 = x at *
  generalize Lib.trimLeftB b 48 = y at *
  have HN := Lib.hid hn
  have HT1 := Lib.hid T1
  have HT2 := Lib.hid T2
  have HC := Lib.hid hC
  have HNE := Lib.hid hne
  clear hn T1 T2 hC hne
  generalize strV a = sa at *
  generalize strV b = sb at *
  generalize strV x = sx at *
  generalize strV y = sy at *
  rw [← ea, ← eb, ← ex, ← ey] at HN
  have ea' : sa.size ≤ 140737488351232 := by omega
  have eb' : sb.size ≤ 140737488351232 := by omega
  have ex' : sx.size ≤ 140737488351232 := by omega
  have ey' : sy.size ≤ 140737488351232 := by omega
  clear ea eb ex ey ha hb hx hy
  have HI := Lib.hid (fun (m n : Int) w => Tryd.cmp_Compare_int m n w)
  by_cases h1 : sx.size = sy.size
  · have hr := HN.out
    rw [if_neg (by omega)] at hr
    have q1 : ((sx.size : Int) != sy.size) = false := by simp [h1]
    by_cases h2 : x = y
    · rw [if_neg (by simp [h2])] at hr
      have h3 : sx = sy := HNE.out.2 h2
      have q2 : (sx.toList == sy.toList) = true := by simp [h3]
      have HR := Lib.hid hr
      clear hr h1 h3 h2
      go_enter Tryd.func128, Tryd.ntmps128
      go_wp2_with (first | (go_at_call 162; first | ((with_reducible refine (HT1.out _).mono ?_); rintro e w' ⟨rfl, rfl⟩) | ((with_reducible refine (HT2.out _).mono ?_); rintro e w' ⟨rfl, rfl⟩)) | (go_at_call 163; refine (HI.out _ _ _).mono ?_; rintro e w' ⟨rfl, rfl⟩))
      all_goals
        go_ret
        exact ⟨retI HR.out.symm, rfl⟩
    · rw [if_pos h2] at hr
      have h3 : sx ≠ sy := fun e => h2 (HNE.out.1 e)
      have q2 : (sx.toList == sy.toList) = false := by
        rw [beq_eq_false_iff_ne]
        intro e
        rw [Lib.toList_data, Lib.toList_data] at e
        exact h3 (by rw [← strV_of sx, ← strV_of sy, e])
      have HR := Lib.hid hr
      clear hr h1 h3 h2
      go_enter Tryd.func128, Tryd.ntmps128
      go_wp2_with (first | (go_at_call 162; first | ((with_reducible refine (HT1.out _).mono ?_); rintro e w' ⟨rfl, rfl⟩) | ((with_reducible refine (HT2.out _).mono ?_); rintro e w' ⟨rfl, rfl⟩)) | (go_at_call 129; refine (HC.out _).mono ?_; rintro e w' ⟨rfl, rfl⟩))
      all_goals
        go_ret
        exact ⟨retI HR.out.symm, rfl⟩
  · have hr := HN.out
    rw [if_pos (by omega)] at hr
    have q1 : ((sx.size : Int) != sy.size) = true := by simp only [bne_iff_ne, ne_eq]; omega
    have HR := Lib.hid hr
    clear hr h1
    go_enter Tryd.func128, Tryd.ntmps128
    go_wp2_with (first | (go_at_call 162; first | ((with_reducible refine (HT1.out _).mono ?_); rintro e w' ⟨rfl, rfl⟩) | ((with_reducible refine (HT2.out _).mono ?_); rintro e w' ⟨rfl, rfl⟩)) | (go_at_call 163; refine (HI.out _ _ _).mono ?_; rintro e w' ⟨rfl, rfl⟩))
    all_goals
      go_ret
      exact ⟨retI HR.out.symm, rfl⟩

theorem part_aux (sa sb : ByteArray) (r nu cb : Int) (w : World) (la' : 0 < sa.size) (lb' : 0 < sb.size)
    (hn : ∀ w, Calls Tryd.prog 128 #[.string sa, .string sb] w fun e w' => e = .returned (.int .i64 nu) ∧ w' = w)
    (hc : ∀ w, Calls Tryd.prog 129 #[.string sa, .string sb] w fun e w' => e = .returned (.int .i64 cb) ∧ w' = w)
    (hp : r = if figB sa[0] then (if figB sb[0] then nu else -1) else if figB sb[0] then 1 else cb) :
    Calls Tryd.prog 98 #[.string sa, .string sb] w fun e w' => e = .returned (.int .i64 r) ∧ ∃ n, w' = w.drewN n := by
  have la : (0 : Int) < sa.size := by omega
  have lb : (0 : Int) < sb.size := by omega
  have HNu := Lib.hid hn
  have HC := Lib.hid hc
  have HP := Lib.hid hp
  have HFa := Lib.hid (fun w => figure_calls sa[0] w)
  have HFb := Lib.hid (fun w => figure_calls sb[0] w)
  clear hn hc hp
  generalize figB sa[0] = ga at *
  generalize figB sb[0] = gb at *
  cases ga <;> cases gb
  all_goals
    have HR := Lib.hid HP.out
    clear HP
    simp only [Bool.false_eq_true, if_false, if_true] at HR
    go_enter Tryd.func98, Tryd.ntmps98
    go_wp2_with fail
    go_quiet ((go_at_call 127; first | (with_reducible exact Calls.quiet_of_same (HFa.out _)) | (with_reducible exact Calls.quiet_of_same (HFb.out _))))
    go_wp2_with (first | (go_at_call 128; refine (HNu.out _).mono ?_; rintro e w' ⟨rfl, rfl⟩) | (go_at_call 129; refine (HC.out _).mono ?_; rintro e w' ⟨rfl, rfl⟩))
    go_ret
    exact ⟨retI HR.out.symm, _, rfl⟩
theorem headD_strV (a : List UInt8) (h : 0 < (strV a).size) : a.headD 0 = (strV a)[0] := by
  cases a with
  | nil => exact absurd h (by rw [strV_size]; simp)
  | cons c r => rfl
theorem part_calls (a b : List UInt8) (w : World) (ha : a.length ≤ 140737488351232) (hb : b.length ≤ 140737488351232) (ha0 : a ≠ []) (hb0 : b ≠ []) :
    Calls Tryd.prog 98 #[.string (strV a), .string (strV b)] w fun e w' => e = .returned (.int .i64 (partC a b)) ∧ ∃ n, w' = w.drewN n := by
  have la : 0 < (strV a).size := by rw [strV_size]; exact List.length_pos_iff.2 ha0
  have lb : 0 < (strV b).size := by rw [strV_size]; exact List.length_pos_iff.2 hb0
  have hC := fun w => Tryd.strings_Compare (strV a) (strV b) w
  rw [strV_data, strV_data] at hC
  refine part_aux (strV a) (strV b) _ (numC a b) (Lib.compareBytes a b) w la lb (fun w => numbers_calls a b w ha hb) hC ?_
  rw [← headD_strV a la, ← headD_strV b lb]
  rfl
end Go.Proofs.YtolaecdopfmbgaaDoor
