/- The closed facts of KeeperNone's card, one by one. No condition. -/
import Derived.Test.YthgocacoopcijaaGreatDoorRows
import Derived.SevenTiedAt
namespace Go.Proofs.YthgocacoopcijaaGreatDoor.keeperNone
open Go Go.Proofs.YthgocacoopcijaaGreatDoor
theorem m1 : Rows.keeperNoneRow.wfByText (OpenSpec.ofChange Rows.keeperNoneSpec) = true := by kernel_rfl
theorem m2 : Tryz.prog.mainIs = some (true, "728c3c8b9fdc8a245d4a2bac93f63014483fa883f899b874b8ad972f7c36b03f".toList) := by kernel_rfl
theorem m3 : Tryz.prog.funcNamed "stillage/stillagelaw35.KeeperNone" = some 3 := by kernel_rfl
theorem m4 : true = Tryz.prog.looks [] := by kernel_rfl
theorem m5 : ([3].all fun u => !Tryz.prog.wantsStandIn u) = true := by kernel_rfl
theorem m6 : false = Rows.keeperNoneRow.goesBy Tryz.prog := by kernel_rfl
end Go.Proofs.YthgocacoopcijaaGreatDoor.keeperNone
