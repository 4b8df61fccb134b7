/- The closure that writes a reply's part. Condition: lengths of at most 67108864 bytes. -/
import Derived.Test.YtjplfkcelkijfaaGreatDoorVf
namespace Go.Proofs.YtjplfkcelkijfaaGreatDoor
open Go.RowKit

theorem strCells_of (l : List UInt8) : Lib.strCells ⟨l.toArray⟩ = Lib.byteCells l := by
  unfold Lib.strCells Lib.byteCells; simp
set_option maxHeartbeats 2000000 in
set_option maxRecDepth 100000 in
theorem tell_calls (B b : Nat) (l : List UInt8) (is : Bool) (wd sx : List UInt8) (w : World) (h : Lib.IsBuilder 62 5 B b (Lib.byteCells l) w) (hl : l.length ≤ 67108864) (hw : wd.length ≤ 1024) (hs : sx.length ≤ 67108864) (hBw : B ≤ w.heap.size) :
    Calls Tryz.prog 26 #[.bool is, .string ⟨wd.toArray⟩, .string ⟨sx.toArray⟩, .pointer (some ⟨b, 0, none⟩)] w fun e w' => e = .returned (.tuple #[]) ∧ Lib.IsBuilder 62 5 B b (Lib.byteCells (l ++ tellL is wd sx)) w' ∧ Below B w w' := by
  cases is with
  | false =>
    have HI : Hid (Lib.IsBuilder 62 5 B b (Lib.byteCells (l ++ tellL false wd sx)) w) := by
      show Lib.IsBuilder _ _ _ _ _ _
      rw [show tellL false wd sx = [] from rfl, List.append_nil]; exact h
    clear h
    go_enter Tryz.func26, Tryz.ntmps26
    go_wp2_with fail
    go_end0
    exact ⟨rfl, HI.out, Below.refl _ _⟩
  | true =>
    have hcl : (Lib.byteCells l).length = l.length := Lib.byteCells_length l
    have HW := Lib.hid (writeString_calls B b (Lib.byteCells l) ⟨(32 :: (wd ++ 61 :: sx)).toArray⟩ w h (by rw [hcl]; show l.length + (32 :: (wd ++ 61 :: sx)).toArray.size ≤ _; simp; omega) hBw)
    have h1 : ¬ 9223372036854775807 < 1 + wd.length := by omega
    have h2 : ¬ 9223372036854775807 < 1 + wd.length + 1 := by omega
    have h3 : ¬ 9223372036854775807 < 1 + wd.length + 1 + sx.length := by omega
    have HE : Hid (((⟨[32].toArray⟩ : ByteArray) ++ ⟨wd.toArray⟩) ++ ⟨[61].toArray⟩ ++ ⟨sx.toArray⟩ = ⟨(32 :: (wd ++ 61 :: sx)).toArray⟩) := by
      show _ = _
      rw [lits, lits, lits]; simp
    clear h hcl
    go_enter Tryz.func26, Tryz.ntmps26
    go_wp2_with fail
    rw [HE.out]
    refine HW.out.mono ?_
    rintro e w1 ⟨rfl, hbd, hb⟩
    rw [strCells_of] at hbd
    have HBD := Lib.hid hbd
    have HB := Lib.hid hb
    clear hbd hb
    go_wp2_with fail
    go_end0
    refine ⟨rfl, .inr ?_, HB.out⟩
    have : Lib.byteCells (l ++ tellL true wd sx) = Lib.byteCells l ++ Lib.byteCells (32 :: (wd ++ 61 :: sx)) := by
      show Lib.byteCells (l ++ (32 :: (wd ++ 61 :: sx))) = _
      unfold Lib.byteCells; rw [List.map_append]
    rw [this]; exact HBD.out
end Go.Proofs.YtjplfkcelkijfaaGreatDoor
