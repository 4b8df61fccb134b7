/- The law CleanerNone, evaluated: it returns true whatever its arguments. No condition. -/
import Derived.Test.YtheoedabkdipcaaGreatDoorEvCn
namespace Go.Proofs.YtheoedabkdipcaaGreatDoor.Ev
open Go Go.RowKit
theorem cleanerNone_true (a0 : Nat) (a1 : Int) : saysTrue (fCall conAll Tryz.prog 100 ⟨0, []⟩ 3 [.float .f64 a0, .int .i64 a1] .leaf GLIM) = true := by kernel_rfl
theorem cleanerNone_calls (a0 : Nat) (a1 : Int) (w : World) : Calls Tryz.prog 3 #[.float .f64 a0, .int .i64 a1] w (fun e w' => e = .returned (.bool true) ∧ Below w.heap.size w w') := by
  obtain ⟨h', n', he⟩ := saysTrue_some (cleanerNone_true a0 a1)
  exact fast_call mixed_all conAll_keeps conAll_ok rfl rfl he w
end Go.Proofs.YtheoedabkdipcaaGreatDoor.Ev
