/- The closed facts of RoomNone's row, one by one: the program's. No condition. -/
import Derived.Test.YtheoedabkdipcaaGreatDoorRows
import Derived.JoinedOf
namespace Go.Proofs.YtheoedabkdipcaaGreatDoor.roomNone
open Go Go.Proofs.YtheoedabkdipcaaGreatDoor
theorem k1 : (Rows.roomNoneRow.wf (OpenSpec.ofChange Rows.roomNoneSpec)) = true := by kernel_rfl
theorem k2 : (laidOutB Tryz.prog) = true := by kernel_rfl
theorem k3 : (mapsRowed Tryz.prog) = true := by kernel_rfl
theorem k17b : (Rows.roomNoneRow.veiledFits Tryz.prog Tryz.f4.params.toList (Tryz.f4.params.toList ++ Rows.roomNoneSpec.plain.varTypes Tryz.prog ++ Tryz.f4.resultTypes.toList)) = true := by kernel_rfl
theorem k22 : (Rows.roomNoneRow.plainKeys == Tryz.prog.plainKeys) = true := by kernel_rfl
theorem k24 : (Tryz.prog.stopsHeard) = true := by kernel_rfl
theorem k24b : (Tryz.prog.mayEnter) = true := by kernel_rfl
theorem k24c : (Rows.roomNoneRow.lifted == Tryz.prog.liftsFinal) = true := by kernel_rfl
theorem k25 : (Tryz.prog.make == some Rows.roomNoneRow.make) = true := by kernel_rfl
end Go.Proofs.YtheoedabkdipcaaGreatDoor.roomNone
