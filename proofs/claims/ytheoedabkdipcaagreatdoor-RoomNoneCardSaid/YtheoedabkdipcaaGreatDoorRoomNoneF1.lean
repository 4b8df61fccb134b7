/- The closed facts of RoomNone's row, one by one: what the law reaches. No condition. -/
import Derived.Test.YtheoedabkdipcaaGreatDoorRows
import Derived.JoinedOf
namespace Go.Proofs.YtheoedabkdipcaaGreatDoor.roomNone
open Go Go.Proofs.YtheoedabkdipcaaGreatDoor
theorem k10 : (Rows.roomNoneRow.inPlace == Tryz.prog.inPlace 4) = true := by kernel_rfl
theorem k11 : (Rows.roomNoneRow.unfollowed == Tryz.prog.unfollowed 4) = true := by kernel_rfl
theorem k12 : (Rows.roomNoneRow.recurses == Tryz.prog.recurses 4) = true := by kernel_rfl
theorem k13 : (Rows.roomNoneRow.named == Tryz.prog.varsNamed 4) = true := by kernel_rfl
end Go.Proofs.YtheoedabkdipcaaGreatDoor.roomNone
