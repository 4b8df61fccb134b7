/- The closed facts of ScriptNone's card, one by one. No condition. -/
import Derived.Test.YtpbnpbmiijgeiaaGreatDoorRows
import Derived.SevenTiedAt
namespace Go.Proofs.YtpbnpbmiijgeiaaGreatDoor.scriptNone
open Go Go.Proofs.YtpbnpbmiijgeiaaGreatDoor
theorem m4 : true = Tryz.prog.looks [] := by kernel_rfl
end Go.Proofs.YtpbnpbmiijgeiaaGreatDoor.scriptNone
