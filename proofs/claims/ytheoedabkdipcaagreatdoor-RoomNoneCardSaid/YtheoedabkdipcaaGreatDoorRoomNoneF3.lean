/- The closed facts of RoomNone's card, one by one. No condition. -/
import Derived.Test.YtheoedabkdipcaaGreatDoorRows
import Derived.SevenTiedAt
namespace Go.Proofs.YtheoedabkdipcaaGreatDoor.roomNone
open Go Go.Proofs.YtheoedabkdipcaaGreatDoor
theorem m1 : Rows.roomNoneRow.wfByText (OpenSpec.ofChange Rows.roomNoneSpec) = true := by kernel_rfl
theorem m2 : Tryz.prog.mainIs = some (true, "b78b33dc436adbaa9b7f8c4459f804934f790c96f5681291fe478923ee58e8ff".toList) := by kernel_rfl
theorem m3 : Tryz.prog.funcNamed "stillage/stillagelaw36.RoomNone" = some 4 := by kernel_rfl
theorem m4 : true = Tryz.prog.looks [] := by kernel_rfl
theorem m5 : ([3, 3].all fun u => !Tryz.prog.wantsStandIn u) = true := by kernel_rfl
theorem m6 : false = Rows.roomNoneRow.goesBy Tryz.prog := by kernel_rfl
end Go.Proofs.YtheoedabkdipcaaGreatDoor.roomNone
