/- The closed facts of CleanerNone's row, one by one: what the law reaches. No condition. -/
import Derived.Test.YtheoedabkdipcaaGreatDoorRows
import Derived.JoinedOf
namespace Go.Proofs.YtheoedabkdipcaaGreatDoor.cleanerNone
open Go Go.Proofs.YtheoedabkdipcaaGreatDoor
theorem k10 : (Rows.cleanerNoneRow.inPlace == Tryz.prog.inPlace 3) = true := by kernel_rfl
theorem k11 : (Rows.cleanerNoneRow.unfollowed == Tryz.prog.unfollowed 3) = true := by kernel_rfl
theorem k12 : (Rows.cleanerNoneRow.recurses == Tryz.prog.recurses 3) = true := by kernel_rfl
theorem k13 : (Rows.cleanerNoneRow.named == Tryz.prog.varsNamed 3) = true := by kernel_rfl
end Go.Proofs.YtheoedabkdipcaaGreatDoor.cleanerNone
