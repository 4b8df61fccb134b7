/- The law RoomNone, evaluated: it returns true whatever its arguments. No condition. -/
import Derived.Test.YtheoedabkdipcaaGreatDoorEvCn
namespace Go.Proofs.YtheoedabkdipcaaGreatDoor.Ev
open Go Go.RowKit
theorem roomNone_true (a0 : Int) (a1 : Int) : saysTrue (fCall conAll Tryz.prog 100 ⟨0, []⟩ 4 [.int .i64 a0, .int .i64 a1] .leaf GLIM) = true := by kernel_rfl
theorem roomNone_calls (a0 : Int) (a1 : Int) (w : World) : Calls Tryz.prog 4 #[.int .i64 a0, .int .i64 a1] w (fun e w' => e = .returned (.bool true) ∧ Below w.heap.size w w') := by
  obtain ⟨h', n', he⟩ := saysTrue_some (roomNone_true a0 a1)
  exact fast_call mixed_all conAll_keeps conAll_ok rfl rfl he w
end Go.Proofs.YtheoedabkdipcaaGreatDoor.Ev
