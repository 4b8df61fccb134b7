/- The law KeeperNone of stillagelaw35 walked: it returns true whatever the reserve. No condition. -/
import Derived.Test.YthgocacoopcijaaGreatDoorEvZCon
import Derived.WalkKit
import Derived.WalkSpells
namespace Go.Proofs.YthgocacoopcijaaGreatDoor.Ev
open Go Go.RowKit

set_option maxHeartbeats 400000 in
theorem point_nil (k : Int) (w : World) : Calls Tryz.prog 4 #[.pointer none, .pointer none, .pointer none, .int .i64 k] w fun e w' => e = .returned (.tuple #[.int .i64 0, .int .i64 1]) ∧ Below w.heap.size w w' := by
  go_enter Tryz.func4, Tryz.ntmps4
  go_wp2
  go_ret2
  exact ⟨rfl, (Below.refl _ _).alloc (Nat.le_refl _) _⟩

set_option maxHeartbeats 400000 in
theorem hint_nil (k : Int) (w : World) : Calls Tryz.prog 5 #[.pointer none, .pointer none, .int .i64 k] w fun e w' => e = .returned (.tuple #[.int .i64 0, .int .i64 1]) ∧ Below w.heap.size w w' := by
  go_enter Tryz.func5, Tryz.ntmps5
  go_wp2
  go_ret2
  exact ⟨rfl, (Below.refl _ _).alloc (Nat.le_refl _) _⟩

set_option maxHeartbeats 400000 in
theorem law_none (k : Int) (w : World) : Calls Tryz.prog 3 #[.int .i64 k] w fun e w' => e = .returned (.bool true) ∧ Below w.heap.size w w' := by
  go_enter Tryz.func3, Tryz.ntmps3
  go_wp2_with (go_at_call 4; refine (point_nil _ _).mono ?_; rintro e w1 ⟨rfl, h1⟩)
  go_wp2_with (go_at_call 5; refine (hint_nil _ _).mono ?_; rintro e w2 ⟨rfl, h2⟩)
  go_wp2_with (go_at_call 6; refine (lives_calls _).mono ?_; rintro e w3 ⟨rfl, h3⟩)
  go_ret
  refine ⟨rfl, ?_⟩
  exact (h1.trans (h2.mono h1.size)).trans (h3.mono (Nat.le_trans h1.size h2.size))
end Go.Proofs.YthgocacoopcijaaGreatDoor.Ev
