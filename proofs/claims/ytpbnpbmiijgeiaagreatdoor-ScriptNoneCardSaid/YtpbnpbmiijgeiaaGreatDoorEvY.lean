/- An evaluator of the program's code, twenty-fourth part: the contracts of the library's text functions as the evaluator takes them. No condition. -/
import Derived.Test.YtpbnpbmiijgeiaaGreatDoorEvW
import Derived.Lib.Bytealg
import Derived.Lib.Strings
import Derived.Lib.Atoi
import Derived.Lib.ItoaNum
namespace Go.Proofs.YtpbnpbmiijgeiaaGreatDoor.Ev
open Go Go.RowKit

def digs2 (n : Nat) : List UInt8 := bif Nat.ble n 9 then [UInt8.ofNat (48 + n)] else [UInt8.ofNat (48 + n / 10), UInt8.ofNat (48 + n % 10)]

theorem decDigits2 (n : Nat) (h : n < 100) : Lib.decDigits n = digs2 n := by
  unfold digs2
  by_cases h9 : n ≤ 9
  · rw [ble.2 h9, cond_true, Lib.decDigits, dif_pos (by omega)]
  · have : Nat.ble n 9 = false := by
      cases hb : Nat.ble n 9 with
      | false => rfl
      | true => exact absurd (ble.1 hb) h9
    rw [this, cond_false, Lib.decDigits, dif_neg (by omega), Lib.decDigits, dif_pos (by omega)]
    rfl

/-- strings.Compare (C), strings.Repeat (Rp: 0 or 1 times), strconv.Itoa (It: 0 to 99), strings.CutPrefix (Cp), strconv.Atoi (At: what spells a number, at most 18 bytes) -/
def con5 (C Rp It Cp At : Nat) : ConT := fun f args =>
  bif Nat.beq f C then (match args with | [.string a, .string b] => some (.int .i64 (Lib.compareBytes a.data.toList b.data.toList)) | _ => none)
  else bif Nat.beq f Rp then (match args with
    | [.string a, .int .i64 (.ofNat n)] => bif Nat.beq n 0 then some (.string ⟨#[]⟩) else bif Nat.beq n 1 then some (.string a) else none
    | _ => none)
  else bif Nat.beq f It then (match args with | [.int .i64 (.ofNat n)] => bif Nat.ble n 99 then some (.string ⟨(digs2 n).toArray⟩) else none | _ => none)
  else bif Nat.beq f Cp then (match args with
    | [.string a, .string b] => some (.tuple #[.string ⟨(Lib.trimPrefix a.data.toList b.data.toList).toArray⟩, .bool (Lib.hasPrefix a.data.toList b.data.toList)])
    | _ => none)
  else bif Nat.beq f At then (match args with
    | [.string a] => bif Nat.ble a.data.toList.length 18 then (match Lib.atoi a.data.toList with | some n => some (.tuple #[.int .i64 n, .nilIface]) | none => none) else none
    | _ => none)
  else none

theorem con5_ok {P : Program} {C Rp It Cp At : Nat}
    (hC : ∀ a b w, Calls P C #[.string a, .string b] w (fun e w' => e = .returned (.int .i64 (Lib.compareBytes a.data.toList b.data.toList)) ∧ Below w.heap.size w w'))
    (hR0 : ∀ a w, Calls P Rp #[.string a, .int .i64 0] w (fun e w' => e = .returned (.string ⟨#[]⟩) ∧ Below w.heap.size w w'))
    (hR1 : ∀ a w, Calls P Rp #[.string a, .int .i64 1] w (fun e w' => e = .returned (.string a) ∧ Below w.heap.size w w'))
    (hI : ∀ (n : Nat) w, n < 100 → Calls P It #[.int .i64 (n : Int)] w (fun e w' => e = .returned (.string ⟨(digs2 n).toArray⟩) ∧ Below w.heap.size w w'))
    (hP : ∀ a b w, Calls P Cp #[.string a, .string b] w (fun e w' => e = .returned (.tuple #[.string ⟨(Lib.trimPrefix a.data.toList b.data.toList).toArray⟩, .bool (Lib.hasPrefix a.data.toList b.data.toList)]) ∧ Below w.heap.size w w'))
    (hA : ∀ (a : ByteArray) (n : Int) w, a.size ≤ 18 → Lib.atoi a.data.toList = some n → Calls P At #[.string a] w (fun e w' => e = .returned (.tuple #[.int .i64 n, .nilIface]) ∧ Below w.heap.size w w')) :
    ConOK P (con5 C Rp It Cp At) := by
  intro f args v he
  unfold con5 at he
  cases h1 : Nat.beq f C with
  | true =>
    obtain rfl := Tri.beq_true.1 h1
    simp only [h1, cond_true] at he
    split at he
    case h_2 => cases he
    rename_i a b
    cases he
    exact ⟨rfl, fun w => hC a b w⟩
  | false =>
  simp only [h1, cond_false] at he
  cases h2 : Nat.beq f Rp with
  | true =>
    obtain rfl := Tri.beq_true.1 h2
    simp only [h2, cond_true] at he
    split at he
    case h_2 => cases he
    rename_i a n
    cases h0 : Nat.beq n 0 with
    | true =>
      obtain rfl := Tri.beq_true.1 h0
      simp only [h0, cond_true] at he
      cases he
      exact ⟨rfl, fun w => hR0 a w⟩
    | false =>
      simp only [h0, cond_false] at he
      cases h3 : Nat.beq n 1 with
      | true =>
        obtain rfl := Tri.beq_true.1 h3
        simp only [h3, cond_true] at he
        cases he
        exact ⟨rfl, fun w => hR1 a w⟩
      | false => simp only [h3, cond_false] at he; cases he
  | false =>
  simp only [h2, cond_false] at he
  cases h3 : Nat.beq f It with
  | true =>
    obtain rfl := Tri.beq_true.1 h3
    simp only [h3, cond_true] at he
    split at he
    case h_2 => cases he
    rename_i n
    cases h0 : Nat.ble n 99 with
    | false => simp only [h0, cond_false] at he; cases he
    | true =>
      simp only [h0, cond_true] at he
      cases he
      exact ⟨rfl, fun w => hI n w (by have := ble.1 h0; omega)⟩
  | false =>
  simp only [h3, cond_false] at he
  cases h4 : Nat.beq f Cp with
  | true =>
    obtain rfl := Tri.beq_true.1 h4
    simp only [h4, cond_true] at he
    split at he
    case h_2 => cases he
    rename_i a b
    cases he
    exact ⟨rfl, fun w => hP a b w⟩
  | false =>
  simp only [h4, cond_false] at he
  cases h5 : Nat.beq f At with
  | false => simp only [h5, cond_false] at he; cases he
  | true =>
    obtain rfl := Tri.beq_true.1 h5
    simp only [h5, cond_true] at he
    split at he
    case h_2 => cases he
    rename_i a
    cases h0 : Nat.ble a.data.toList.length 18 with
    | false => simp only [h0, cond_false] at he; cases he
    | true =>
      simp only [h0, cond_true] at he
      split at he
      case h_2 => cases he
      rename_i n hn
      cases he
      exact ⟨rfl, fun w => hA a n w (by have := ble.1 h0; rw [Array.length_toList] at this; exact this) hn⟩

/-- the answer true of a closed run -/
def saysTrue : R → Bool
  | some (.bool true, _, _) => true
  | _ => false
theorem saysTrue_some {r : R} (h : saysTrue r = true) : ∃ h' n', r = some (.bool true, h', n') := by
  unfold saysTrue at h
  split at h
  · exact ⟨_, _, rfl⟩
  · cases h

end Go.Proofs.YtpbnpbmiijgeiaaGreatDoor.Ev
