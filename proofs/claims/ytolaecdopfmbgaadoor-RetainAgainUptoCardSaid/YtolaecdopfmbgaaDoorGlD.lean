/- glob.end returns where a class ends, for every string of at most 140737488351232 bytes; the world is as it was. -/
import Derived.Test.YtolaecdopfmbgaaDoorGlC
import Derived.Lib.IndexLaws
namespace Go.Proofs.YtolaecdopfmbgaaDoor.Gl
open Go.RowKit

/-- where the ] is that ends a class -/
def endG (s : List UInt8) : Int :=
  let f : Nat := if Lib.hasPrefix s [94] = true then 2 else 1
  if s.length < f then -1 else
    if Lib.indexByte (s.drop f) 93 < 0 then -1 else f + Lib.indexByte (s.drop f) 93

theorem indexByte_le (l : List UInt8) (c : UInt8) : Lib.indexByte l c ≤ (l.length : Int) - 1 := by
  induction l with
  | nil => simp [Lib.indexByte]
  | cons a l ih =>
    unfold Lib.indexByte
    simp only [List.length_cons]
    split
    · omega
    · split <;> omega

theorem endG_t (s : List UInt8) (h : Lib.hasPrefix s [94] = true) : endG s = if s.length < 2 then -1 else if Lib.indexByte (s.drop 2) 93 < 0 then -1 else 2 + Lib.indexByte (s.drop 2) 93 := by
  unfold endG; rw [h]; rfl
theorem endG_f (s : List UInt8) (h : Lib.hasPrefix s [94] = false) : endG s = if s.length < 1 then -1 else if Lib.indexByte (s.drop 1) 93 < 0 then -1 else 1 + Lib.indexByte (s.drop 1) 93 := by
  unfold endG; rw [h]; rfl
theorem endG_lt (s : List UInt8) : endG s < s.length ∧ -1 ≤ endG s := by
  cases hb : Lib.hasPrefix s [94] with
  | true =>
    rw [endG_t _ hb]
    have := indexByte_le (s.drop 2) 93
    have := Lib.indexByte_ge (s.drop 2) 93
    rw [List.length_drop] at *
    repeat' split
    all_goals omega
  | false =>
    rw [endG_f _ hb]
    have := indexByte_le (s.drop 1) 93
    have := Lib.indexByte_ge (s.drop 1) 93
    rw [List.length_drop] at *
    repeat' split
    all_goals omega
set_option maxHeartbeats 400000 in
theorem end_calls (s : ByteArray) (w : World) (hs : s.size ≤ 140737488351232) :
    Calls Tryd.prog 107 #[.string s] w fun e w' => e = .returned (.int .i64 (endG s.data.toList)) ∧ w' = w := by
  have hl : s.data.toList.length = s.size := by simp
  have b1 := Lib.indexByte_ge (s.data.toList.drop 1) 93
  have b2 := Lib.indexByte_ge (s.data.toList.drop 2) 93
  have b3 := indexByte_le (s.data.toList.drop 1) 93
  have b4 := indexByte_le (s.data.toList.drop 2) 93
  have e1 : List.take (s.size - 1) s.data.toList.tail = s.data.toList.drop 1 := by rw [List.take_of_length_le (by simp), List.drop_one]
  have e2 : List.take (s.size - 2) (s.data.toList.drop 2) = s.data.toList.drop 2 := List.take_of_length_le (by simp)
  rw [List.length_drop, hl] at b3 b4
  have E1 := Lib.hid e1
  have E2 := Lib.hid e2
  have HL := Lib.hid hl
  have B1 := Lib.hid b1
  have B2 := Lib.hid b2
  have B3 := Lib.hid b3
  have B4 := Lib.hid b4
  rw [← e1] at b1
  rw [← e2] at b2
  have b5 : Lib.indexByte (List.take (s.size - 1) s.data.toList.tail) 93 ≤ 140737488351232 := by rw [e1]; omega
  have b6 : Lib.indexByte (List.take (s.size - 2) (s.data.toList.drop 2)) 93 ≤ 140737488351232 := by rw [e2]; omega
  clear hl e1 e2 b3 b4
  go_enter Tryd.func107, Tryd.ntmps107
  go_wp2_with (first | (go_at_call 132; refine (Tryd.strings_HasPrefix _ _ _).mono ?_; rintro e w' ⟨rfl, rfl⟩) | (go_at_call 133; refine (Tryd.strings_IndexByte _ _ _).mono ?_; rintro e w' ⟨rfl, rfl⟩))
  all_goals
    go_ret
    refine ⟨ret_int ?_, rfl⟩
    have e1 := E1.out
    have e2 := E2.out
    have hl := HL.out
    first | rw [endG_t _ ‹_›] | rw [endG_f _ ‹_›]
    simp only [e1, e2] at *
    repeat' split
    all_goals omega
end Go.Proofs.YtolaecdopfmbgaaDoor.Gl
