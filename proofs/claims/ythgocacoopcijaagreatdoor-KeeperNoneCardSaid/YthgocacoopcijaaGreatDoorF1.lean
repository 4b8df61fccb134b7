/- The closed facts of KeeperNone's row, one by one. No condition. -/
import Derived.Test.YthgocacoopcijaaGreatDoorRows
import Derived.JoinedOf
namespace Go.Proofs.YthgocacoopcijaaGreatDoor.keeperNone
open Go Go.Proofs.YthgocacoopcijaaGreatDoor
noncomputable abbrev P := Tryz.prog
theorem k10 : (Rows.keeperNoneRow.inPlace == P.inPlace 3) = true := by kernel_rfl
theorem k11 : (Rows.keeperNoneRow.unfollowed == P.unfollowed 3) = true := by kernel_rfl
theorem k12 : (Rows.keeperNoneRow.recurses == P.recurses 3) = true := by kernel_rfl
theorem k13 : (Rows.keeperNoneRow.named == P.varsNamed 3) = true := by kernel_rfl
end Go.Proofs.YthgocacoopcijaaGreatDoor.keeperNone
