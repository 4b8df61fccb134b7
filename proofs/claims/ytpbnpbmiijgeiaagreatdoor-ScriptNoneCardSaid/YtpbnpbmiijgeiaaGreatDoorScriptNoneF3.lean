/- The closed facts of ScriptNone's card, one by one. No condition. -/
import Derived.Test.YtpbnpbmiijgeiaaGreatDoorRows
import Derived.SevenTiedAt
namespace Go.Proofs.YtpbnpbmiijgeiaaGreatDoor.scriptNone
open Go Go.Proofs.YtpbnpbmiijgeiaaGreatDoor
theorem m1 : Rows.scriptNoneRow.wfByText (OpenSpec.ofChange Rows.scriptNoneSpec) = true := by kernel_rfl
theorem m2 : Tryz.prog.mainIs = some (true, "0ee7a9f4ef8f1babadf6fc61ce10601e50afb53c7abc4e8a511a6178e7e81f63".toList) := by kernel_rfl
theorem m3 : Tryz.prog.funcNamed "stillage/stillagelaw40.ScriptNone" = some 3 := by kernel_rfl
theorem m5 : ([22].all fun u => !Tryz.prog.wantsStandIn u) = true := by kernel_rfl
end Go.Proofs.YtpbnpbmiijgeiaaGreatDoor.scriptNone
