/-
  DERIVED. GIVEN WITH THE SEED: THE CARDS: each row of YtjplfkcelkijfaaGreatDoorRows.lean that lists a variable, with what it lists TIED to the program's text (the seventh form; the later family's looks); each row that meets fmt, with fmt's text TOLD by the authors' own Lean function (tested against real Go, not proved from fmt's source: count such statements apart). THE CARD IS WHAT COUNTS. Prove the row's statement (the work); the ties are given (YtjplfkcelkijfaaGreatDoorTie.lean); close each card by the builder's one call (the guide's Derived/Test/ToyasCard.lean, 'card_holds'). Laid BY PROGRAM, IN A SANDBOX (cutbox-door.mjs). By AI agents, Wed Nov 11 2026. No macro, syntax, notation, axiom, sorry.
-/
import Derived.Test.YtjplfkcelkijfaaGreatDoorRows
import GoSem.ClaimSeven
namespace Go.Proofs.YtjplfkcelkijfaaGreatDoor
namespace Rows

/-- THE TIED CARD OF 'stillagelaw41.LineReads'. -/
def lineReadsCard : Claim7 := { stood := { row := lineReadsRow, standIns := [], harness := (true, "6dfeaed5dbca6a978ac15fe9502bffccd83f2911508e6e4e317cee8eaff046be"), looks := true }, kinds := [], alts := [], laidByText := true, laidKinds := [.data, .data, .data, .data, .sentinel, .sentinel, .pinned], laidTests := true, laidLooks := .later }
def LineReadsCardSaid : Prop := Claim7.holds Tryz.pinned (.plain (OpenSpec.ofChange lineReadsSpec)) lineReadsCard

/-- THE TIED CARD OF 'stillagelaw41.LineReplies'. -/
def lineRepliesCard : Claim7 := { stood := { row := lineRepliesRow, standIns := [], harness := (true, "6dfeaed5dbca6a978ac15fe9502bffccd83f2911508e6e4e317cee8eaff046be"), looks := true }, kinds := [], alts := [], laidByText := true, laidKinds := [.data, .data, .data, .data, .sentinel, .sentinel, .pinned], laidTests := true, laidLooks := .later }
def LineRepliesCardSaid : Prop := Claim7.holds Tryz.pinned (.plain (OpenSpec.ofChange lineRepliesSpec)) lineRepliesCard

/-- THE TIED CARD OF 'stillagelaw41.LineAnswers'. -/
def lineAnswersCard : Claim7 := { stood := { row := lineAnswersRow, standIns := [], harness := (true, "6dfeaed5dbca6a978ac15fe9502bffccd83f2911508e6e4e317cee8eaff046be"), looks := true }, kinds := [], alts := [], laidByText := true, laidKinds := [.data, .data, .data, .data, .sentinel, .sentinel, .pinned], laidTests := true, laidLooks := .later }
def LineAnswersCardSaid : Prop := Claim7.holds Tryz.pinned (.plain (OpenSpec.ofChange lineAnswersSpec)) lineAnswersCard

/-- THE TIED CARD OF 'stillagelaw41.LineAgain'. -/
def lineAgainCard : Claim7 := { stood := { row := lineAgainRow, standIns := [], harness := (true, "6dfeaed5dbca6a978ac15fe9502bffccd83f2911508e6e4e317cee8eaff046be"), looks := true }, kinds := [], alts := [], laidByText := true, laidKinds := [.data, .data, .data, .data, .sentinel, .sentinel, .pinned], laidTests := true, laidLooks := .later }
def LineAgainCardSaid : Prop := Claim7.holds Tryz.pinned (.plain (OpenSpec.ofChange lineAgainSpec)) lineAgainCard

/-- THE SECOND FORM's CARD OF 'stillagelaw41.LineReads'. -/
def lineReadsUptoCard : Claim7 := { stood := { row := lineReadsUptoRow, standIns := [], harness := (true, "6dfeaed5dbca6a978ac15fe9502bffccd83f2911508e6e4e317cee8eaff046be"), looks := true }, kinds := [], alts := [], laidByText := true, laidKinds := [.data, .data, .data, .data, .sentinel, .sentinel, .pinned], laidTests := true, laidLooks := .later }
def LineReadsUptoCardSaid : Prop := Claim7.holds Tryz.pinned (.plain (OpenSpec.upto lineReadsSpec)) lineReadsUptoCard

/-- THE SECOND FORM's CARD OF 'stillagelaw41.LineReplies'. -/
def lineRepliesUptoCard : Claim7 := { stood := { row := lineRepliesUptoRow, standIns := [], harness := (true, "6dfeaed5dbca6a978ac15fe9502bffccd83f2911508e6e4e317cee8eaff046be"), looks := true }, kinds := [], alts := [], laidByText := true, laidKinds := [.data, .data, .data, .data, .sentinel, .sentinel, .pinned], laidTests := true, laidLooks := .later }
def LineRepliesUptoCardSaid : Prop := Claim7.holds Tryz.pinned (.plain (OpenSpec.upto lineRepliesSpec)) lineRepliesUptoCard

/-- THE SECOND FORM's CARD OF 'stillagelaw41.LineAnswers'. -/
def lineAnswersUptoCard : Claim7 := { stood := { row := lineAnswersUptoRow, standIns := [], harness := (true, "6dfeaed5dbca6a978ac15fe9502bffccd83f2911508e6e4e317cee8eaff046be"), looks := true }, kinds := [], alts := [], laidByText := true, laidKinds := [.data, .data, .data, .data, .sentinel, .sentinel, .pinned], laidTests := true, laidLooks := .later }
def LineAnswersUptoCardSaid : Prop := Claim7.holds Tryz.pinned (.plain (OpenSpec.upto lineAnswersSpec)) lineAnswersUptoCard

/-- THE SECOND FORM's CARD OF 'stillagelaw41.LineAgain'. -/
def lineAgainUptoCard : Claim7 := { stood := { row := lineAgainUptoRow, standIns := [], harness := (true, "6dfeaed5dbca6a978ac15fe9502bffccd83f2911508e6e4e317cee8eaff046be"), looks := true }, kinds := [], alts := [], laidByText := true, laidKinds := [.data, .data, .data, .data, .sentinel, .sentinel, .pinned], laidTests := true, laidLooks := .later }
def LineAgainUptoCardSaid : Prop := Claim7.holds Tryz.pinned (.plain (OpenSpec.upto lineAgainSpec)) lineAgainUptoCard
end Rows
end Go.Proofs.YtjplfkcelkijfaaGreatDoor
