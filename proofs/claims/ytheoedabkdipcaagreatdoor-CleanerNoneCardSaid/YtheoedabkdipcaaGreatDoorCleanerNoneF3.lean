/- The closed facts of CleanerNone's card, one by one. No condition. -/
import Derived.Test.YtheoedabkdipcaaGreatDoorRows
import Derived.SevenTiedAt
namespace Go.Proofs.YtheoedabkdipcaaGreatDoor.cleanerNone
open Go Go.Proofs.YtheoedabkdipcaaGreatDoor
theorem m1 : Rows.cleanerNoneRow.wfByText (OpenSpec.ofChange Rows.cleanerNoneSpec) = true := by kernel_rfl
theorem m2 : Tryz.prog.mainIs = some (true, "b78b33dc436adbaa9b7f8c4459f804934f790c96f5681291fe478923ee58e8ff".toList) := by kernel_rfl
theorem m3 : Tryz.prog.funcNamed "stillage/stillagelaw34.CleanerNone" = some 3 := by kernel_rfl
theorem m4 : true = Tryz.prog.looks [] := by kernel_rfl
theorem m5 : ([22, 3].all fun u => !Tryz.prog.wantsStandIn u) = true := by kernel_rfl
theorem m6 : false = Rows.cleanerNoneRow.goesBy Tryz.prog := by kernel_rfl
end Go.Proofs.YtheoedabkdipcaaGreatDoor.cleanerNone
