/- The contracts of the library's text functions and of the check sum, as the evaluator takes them at this program. No condition. -/
import Derived.Test.YtpbnpbmiijgeiaaGreatDoorEvY
import Derived.Test.YtpbnpbmiijgeiaaGreatDoorEvCr
import Derived.Test.YtpbnpbmiijgeiaaGreatDoorShelf
namespace Go.Proofs.YtpbnpbmiijgeiaaGreatDoor.Ev
open Go Go.RowKit

theorem con_ok : ConOK Tryz.prog (con5 90 206 205 239 375) := by
  refine con5_ok ?_ ?_ ?_ ?_ ?_ ?_
  · intro a b w
    exact (Tryz.strings_Compare a b w).mono fun e w' ⟨he, hw⟩ => ⟨he, hw ▸ Below.refl _ _⟩
  · intro a w
    exact (Tryz.strings_Repeat_zero a w).mono fun e w' ⟨he, hw⟩ => ⟨he, hw ▸ Below.refl _ _⟩
  · intro a w
    exact (Tryz.strings_Repeat_one a w).mono fun e w' ⟨he, hw⟩ => ⟨he, hw ▸ Below.refl _ _⟩
  · intro n w hn
    exact (Tryz.strconv_Itoa_small n hn w).mono fun e w' ⟨he, hw⟩ => ⟨by rw [he, decDigits2 n hn], hw ▸ Below.refl _ _⟩
  · intro a b w
    exact (Tryz.strings_CutPrefix a b w).mono fun e w' ⟨he, hw⟩ => ⟨he, hw ▸ Below.refl _ _⟩
  · intro a n w hl h
    refine (Tryz.strconv_Atoi a n hl h w).mono ?_
    rintro e w' ⟨he, t, rfl⟩
    exact ⟨he, Lib.bytesWorld_below w 5 t⟩

noncomputable def conAll : CallT := orCall (liftCon (con5 90 206 205 239 375)) (conCrc 427)
theorem conAll_keeps : CallKp conAll := orCall_keeps (liftCon_keeps _) (conCrc_keeps _)
theorem conAll_ok : CallOK Tryz.prog conAll := orCall_ok (liftCon_ok con_ok) (conCrc_ok fun A cap l s w hl hs hA => more_calls A cap l s w hl hs hA)
theorem mixed_all : Tryz.prog.follows .mixedOrders = true := by kernel_rfl
end Go.Proofs.YtpbnpbmiijgeiaaGreatDoor.Ev
