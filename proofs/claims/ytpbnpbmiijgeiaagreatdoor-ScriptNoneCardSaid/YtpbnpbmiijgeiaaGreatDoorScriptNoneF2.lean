/- The closed facts of ScriptNone's row, one by one: the program's. No condition. -/
import Derived.Test.YtpbnpbmiijgeiaaGreatDoorRows
import Derived.JoinedOf
namespace Go.Proofs.YtpbnpbmiijgeiaaGreatDoor.scriptNone
open Go Go.Proofs.YtpbnpbmiijgeiaaGreatDoor
theorem k1 : (Rows.scriptNoneRow.wf (OpenSpec.ofChange Rows.scriptNoneSpec)) = true := by kernel_rfl
theorem k2 : (laidOutB Tryz.prog) = true := by kernel_rfl
theorem k3 : (mapsRowed Tryz.prog) = true := by kernel_rfl
theorem k17b : (Rows.scriptNoneRow.veiledFits Tryz.prog Tryz.f3.params.toList (Tryz.f3.params.toList ++ Rows.scriptNoneSpec.plain.varTypes Tryz.prog ++ Tryz.f3.resultTypes.toList)) = true := by kernel_rfl
theorem k22 : (Rows.scriptNoneRow.plainKeys == Tryz.prog.plainKeys) = true := by kernel_rfl
theorem k24 : (Tryz.prog.stopsHeard) = true := by kernel_rfl
theorem k24b : (Tryz.prog.mayEnter) = true := by kernel_rfl
theorem k24c : (Rows.scriptNoneRow.lifted == Tryz.prog.liftsFinal) = true := by kernel_rfl
theorem k25 : (Tryz.prog.make == some Rows.scriptNoneRow.make) = true := by kernel_rfl
end Go.Proofs.YtpbnpbmiijgeiaaGreatDoor.scriptNone
