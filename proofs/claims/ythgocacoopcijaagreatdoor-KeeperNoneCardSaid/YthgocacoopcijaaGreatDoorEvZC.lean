/- The tied card of KeeperNone: the law returns true for every int, the listed variables tied to the program's text. No other condition. -/
import Derived.Test.YthgocacoopcijaaGreatDoorTie
import Derived.Test.YthgocacoopcijaaGreatDoorCards
import Derived.Test.YthgocacoopcijaaGreatDoorEvZN
import Derived.Test.YthgocacoopcijaaGreatDoorF3
import Derived.SevenTiedAt
namespace Go.Proofs.YthgocacoopcijaaGreatDoor.keeperNone
open Go

theorem proved : Rows.KeeperNoneCardSaid :=
  Claim7.holds_tied_plain_at .later [] [.data, .data, .data, .sentinel, .sentinel] true (true, "728c3c8b9fdc8a245d4a2bac93f63014483fa883f899b874b8ad972f7c36b03f") true
    row_holds (fun _ h => by cases h) m1 (fun _ h => by cases h) keeperNone_row_tie rfl ⟨rfl, rfl⟩ m2 rfl
    (fun f fn hf hfn => by
      obtain rfl : f = 3 := Option.some.inj (m3.symm.trans hf) |>.symm
      obtain rfl : fn = Tryz.f3 := (Option.some.inj (Tryz.func3.symm.trans hfn)).symm
      exact ⟨m4, fun j t ht => by
        rw [Tryz.params3] at ht
        have hm : t ∈ [3] := by simpa using Array.mem_of_getElem? ht
        exact (show Tryz.prog.wantsStandIn t = false by simpa using List.all_eq_true.1 m5 t hm)⟩)
    m6
#print axioms proved
end Go.Proofs.YthgocacoopcijaaGreatDoor.keeperNone
