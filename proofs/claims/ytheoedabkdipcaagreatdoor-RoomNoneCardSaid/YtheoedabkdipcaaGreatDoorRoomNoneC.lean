/- The tied card of RoomNone: the law returns true whatever its arguments, the listed variables tied to the program's text. No other condition. -/
import Derived.Test.YtheoedabkdipcaaGreatDoorTie
import Derived.Test.YtheoedabkdipcaaGreatDoorCards
import Derived.Test.YtheoedabkdipcaaGreatDoorRoomNoneN
import Derived.Test.YtheoedabkdipcaaGreatDoorRoomNoneF3
import Derived.SevenTiedAt
namespace Go.Proofs.YtheoedabkdipcaaGreatDoor.roomNone
open Go

theorem proved : Rows.RoomNoneCardSaid :=
  Claim7.holds_tied_plain_at .later [] [.data, .data, .data, .sentinel, .sentinel, .data] true (true, "b78b33dc436adbaa9b7f8c4459f804934f790c96f5681291fe478923ee58e8ff") true
    row_holds (fun _ h => by cases h) m1 (fun _ h => by cases h) roomNone_row_tie rfl ⟨rfl, rfl⟩ m2 rfl
    (fun f fn hf hfn => by
      obtain rfl : f = 4 := Option.some.inj (m3.symm.trans hf) |>.symm
      obtain rfl : fn = Tryz.f4 := (Option.some.inj (Tryz.func4.symm.trans hfn)).symm
      exact ⟨m4, fun j t ht => by
        rw [Tryz.params4] at ht
        have hm : t ∈ [3, 3] := by simpa using Array.mem_of_getElem? ht
        exact (show Tryz.prog.wantsStandIn t = false by simpa using List.all_eq_true.1 m5 t hm)⟩)
    m6
#print axioms proved
end Go.Proofs.YtheoedabkdipcaaGreatDoor.roomNone
