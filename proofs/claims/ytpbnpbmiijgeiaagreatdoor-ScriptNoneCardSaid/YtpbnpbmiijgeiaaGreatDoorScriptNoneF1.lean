/- The closed facts of ScriptNone's row, one by one: what the law reaches. No condition. -/
import Derived.Test.YtpbnpbmiijgeiaaGreatDoorRows
import Derived.JoinedOf
namespace Go.Proofs.YtpbnpbmiijgeiaaGreatDoor.scriptNone
open Go Go.Proofs.YtpbnpbmiijgeiaaGreatDoor
theorem k10 : (Rows.scriptNoneRow.inPlace == Tryz.prog.inPlace 3) = true := by kernel_rfl
theorem k11 : (Rows.scriptNoneRow.unfollowed == Tryz.prog.unfollowed 3) = true := by kernel_rfl
theorem k12 : (Rows.scriptNoneRow.recurses == Tryz.prog.recurses 3) = true := by kernel_rfl
theorem k13 : (Rows.scriptNoneRow.named == Tryz.prog.varsNamed 3) = true := by kernel_rfl
end Go.Proofs.YtpbnpbmiijgeiaaGreatDoor.scriptNone
