/- The library's text functions answer as the evaluator takes them; the closed run lives() of KeeperNone hands back true. No condition. (Seat of round r5.) -/
import Derived.Test.YthgocacoopcijaaGreatDoorEvY
import Derived.Test.YthgocacoopcijaaGreatDoorShelf
import Derived.Test.YthgocacoopcijaaGreatDoorProg
namespace Go.Proofs.YthgocacoopcijaaGreatDoor.Ev
open Go Go.RowKit

theorem con_ok : ConOK Tryz.prog (con5 246 71 70 177 178) := by
  refine con5_ok ?_ ?_ ?_ ?_ ?_ ?_
  · intro a b w
    exact (Tryz.strings_Compare a b w).mono fun e w' ⟨he, hw⟩ => ⟨he, hw ▸ Below.refl _ _⟩
  · intro a w
    exact (Tryz.strings_Repeat_zero a w).mono fun e w' ⟨he, hw⟩ => ⟨he, hw ▸ Below.refl _ _⟩
  · intro a w
    exact (Tryz.strings_Repeat_one a w).mono fun e w' ⟨he, hw⟩ => ⟨he, hw ▸ Below.refl _ _⟩
  · intro n w hn
    exact (Tryz.strconv_Itoa_small n hn w).mono fun e w' ⟨he, hw⟩ => ⟨by rw [he, decDigits2 n hn], hw ▸ Below.refl _ _⟩
  · intro a b w
    exact (Tryz.strings_CutPrefix a b w).mono fun e w' ⟨he, hw⟩ => ⟨he, hw ▸ Below.refl _ _⟩
  · intro a n w hl h
    refine (Tryz.strconv_Atoi a n hl h w).mono ?_
    rintro e w' ⟨he, t, rfl⟩
    exact ⟨he, Lib.bytesWorld_below w 5 t⟩

theorem lives_true : saysTrue (evCall (liftCon (con5 246 71 70 177 178)) Tryz.prog 100 ⟨0, []⟩ 6 [] .leaf GLIM) = true := by decide +kernel
theorem lives_calls (w : World) : Calls Tryz.prog 6 #[] w (fun e w' => e = .returned (.bool true) ∧ Below w.heap.size w w') := by
  obtain ⟨h', n', he⟩ := saysTrue_some lives_true
  exact closed_call (by kernel_rfl) (liftCon_keeps _) (liftCon_ok con_ok) rfl he w
end Go.Proofs.YthgocacoopcijaaGreatDoor.Ev
