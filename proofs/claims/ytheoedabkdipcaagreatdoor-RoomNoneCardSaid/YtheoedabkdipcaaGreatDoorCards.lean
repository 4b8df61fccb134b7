/-
  DERIVED. GIVEN WITH THE SEED: THE CARDS: each row of YtheoedabkdipcaaGreatDoorRows.lean that lists a variable, with what it lists TIED to the program's text (the seventh form; the later family's looks); each row that meets fmt, with fmt's text TOLD by the authors' own Lean function (tested against real Go, not proved from fmt's source: count such statements apart). THE CARD IS WHAT COUNTS. Prove the row's statement (the work); the ties are given (YtheoedabkdipcaaGreatDoorTie.lean); close each card by the builder's one call (the guide's Derived/Test/ToyasCard.lean, 'card_holds'). Laid BY PROGRAM, IN A SANDBOX (cutbox-door.mjs). By AI agents, Wed Nov 11 2026. No macro, syntax, notation, axiom, sorry.
-/
import Derived.Test.YtheoedabkdipcaaGreatDoorRows
import GoSem.ClaimSeven
namespace Go.Proofs.YtheoedabkdipcaaGreatDoor
namespace Rows

/-- THE TIED CARD OF 'stillagelaw34.CleanerNone'. -/
def cleanerNoneCard : Claim7 := { stood := { row := cleanerNoneRow, standIns := [], harness := (true, "b78b33dc436adbaa9b7f8c4459f804934f790c96f5681291fe478923ee58e8ff"), looks := true }, kinds := [], alts := [], laidByText := true, laidKinds := [.data, .data, .data, .sentinel, .sentinel, .data], laidTests := true, laidLooks := .later }
def CleanerNoneCardSaid : Prop := Claim7.holds Tryz.pinned (.plain (OpenSpec.ofChange cleanerNoneSpec)) cleanerNoneCard

/-- THE TIED CARD OF 'stillagelaw36.RoomNone'. -/
def roomNoneCard : Claim7 := { stood := { row := roomNoneRow, standIns := [], harness := (true, "b78b33dc436adbaa9b7f8c4459f804934f790c96f5681291fe478923ee58e8ff"), looks := true }, kinds := [], alts := [], laidByText := true, laidKinds := [.data, .data, .data, .sentinel, .sentinel, .data], laidTests := true, laidLooks := .later }
def RoomNoneCardSaid : Prop := Claim7.holds Tryz.pinned (.plain (OpenSpec.ofChange roomNoneSpec)) roomNoneCard

/-- THE SECOND FORM's CARD OF 'stillagelaw34.CleanerNone'. -/
def cleanerNoneUptoCard : Claim7 := { stood := { row := cleanerNoneUptoRow, standIns := [], harness := (true, "b78b33dc436adbaa9b7f8c4459f804934f790c96f5681291fe478923ee58e8ff"), looks := true }, kinds := [], alts := [], laidByText := true, laidKinds := [.data, .data, .data, .sentinel, .sentinel, .data], laidTests := true, laidLooks := .later }
def CleanerNoneUptoCardSaid : Prop := Claim7.holds Tryz.pinned (.plain (OpenSpec.upto cleanerNoneSpec)) cleanerNoneUptoCard

/-- THE SECOND FORM's CARD OF 'stillagelaw36.RoomNone'. -/
def roomNoneUptoCard : Claim7 := { stood := { row := roomNoneUptoRow, standIns := [], harness := (true, "b78b33dc436adbaa9b7f8c4459f804934f790c96f5681291fe478923ee58e8ff"), looks := true }, kinds := [], alts := [], laidByText := true, laidKinds := [.data, .data, .data, .sentinel, .sentinel, .data], laidTests := true, laidLooks := .later }
def RoomNoneUptoCardSaid : Prop := Claim7.holds Tryz.pinned (.plain (OpenSpec.upto roomNoneSpec)) roomNoneUptoCard
end Rows
end Go.Proofs.YtheoedabkdipcaaGreatDoor
