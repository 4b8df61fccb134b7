/- The closed facts of CleanerNone's row, one by one: the program's. No condition. -/
import Derived.Test.YtheoedabkdipcaaGreatDoorRows
import Derived.JoinedOf
namespace Go.Proofs.YtheoedabkdipcaaGreatDoor.cleanerNone
open Go Go.Proofs.YtheoedabkdipcaaGreatDoor
theorem k1 : (Rows.cleanerNoneRow.wf (OpenSpec.ofChange Rows.cleanerNoneSpec)) = true := by kernel_rfl
theorem k2 : (laidOutB Tryz.prog) = true := by kernel_rfl
theorem k3 : (mapsRowed Tryz.prog) = true := by kernel_rfl
theorem k17b : (Rows.cleanerNoneRow.veiledFits Tryz.prog Tryz.f3.params.toList (Tryz.f3.params.toList ++ Rows.cleanerNoneSpec.plain.varTypes Tryz.prog ++ Tryz.f3.resultTypes.toList)) = true := by kernel_rfl
theorem k22 : (Rows.cleanerNoneRow.plainKeys == Tryz.prog.plainKeys) = true := by kernel_rfl
theorem k24 : (Tryz.prog.stopsHeard) = true := by kernel_rfl
theorem k24b : (Tryz.prog.mayEnter) = true := by kernel_rfl
theorem k24c : (Rows.cleanerNoneRow.lifted == Tryz.prog.liftsFinal) = true := by kernel_rfl
theorem k25 : (Tryz.prog.make == some Rows.cleanerNoneRow.make) = true := by kernel_rfl
end Go.Proofs.YtheoedabkdipcaaGreatDoor.cleanerNone
