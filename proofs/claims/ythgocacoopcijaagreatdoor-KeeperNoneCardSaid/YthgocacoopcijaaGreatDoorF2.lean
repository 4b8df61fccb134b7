/- The closed facts of KeeperNone's row, one by one. No condition. -/
import Derived.Test.YthgocacoopcijaaGreatDoorRows
import Derived.JoinedOf
namespace Go.Proofs.YthgocacoopcijaaGreatDoor.keeperNone
open Go Go.Proofs.YthgocacoopcijaaGreatDoor
noncomputable abbrev PP := Tryz.prog
noncomputable abbrev c := Rows.keeperNoneRow
noncomputable abbrev s := Rows.keeperNoneSpec
theorem k1 : (c.wf (OpenSpec.ofChange s)) = true := by kernel_rfl
theorem k2 : (laidOutB PP) = true := by kernel_rfl
theorem k3 : (mapsRowed PP) = true := by kernel_rfl
theorem k17b : (c.veiledFits PP Tryz.f3.params.toList (Tryz.f3.params.toList ++ s.plain.varTypes PP ++ Tryz.f3.resultTypes.toList)) = true := by kernel_rfl
theorem k22 : (c.plainKeys == PP.plainKeys) = true := by kernel_rfl
theorem k24 : (PP.stopsHeard) = true := by kernel_rfl
theorem k24b : (PP.mayEnter) = true := by kernel_rfl
theorem k24c : (c.lifted == PP.liftsFinal) = true := by kernel_rfl
theorem k25 : (PP.make == some c.make) = true := by kernel_rfl
end Go.Proofs.YthgocacoopcijaaGreatDoor.keeperNone
