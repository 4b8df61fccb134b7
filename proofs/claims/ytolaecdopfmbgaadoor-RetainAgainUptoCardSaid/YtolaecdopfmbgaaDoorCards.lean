/-
  DERIVED. GIVEN WITH THE SEED: THE CARDS: each row of YtolaecdopfmbgaaDoorRows.lean that lists a variable, with what it lists TIED to the program's text (the seventh form; the later family's looks); each row that meets fmt, with fmt's text TOLD by the authors' own Lean function (tested against real Go, not proved from fmt's source: count such statements apart). THE CARD IS WHAT COUNTS. Prove the row's statement (the work); the ties are given (YtolaecdopfmbgaaDoorTie.lean); close each card by the builder's one call (the guide's Derived/Test/ToyasCard.lean, 'card_holds'). Laid BY PROGRAM, IN A SANDBOX (cutbox-door.mjs). By AI agents, Wed Nov 11 2026. No macro, syntax, notation, axiom, sorry.
-/
import Derived.Test.YtolaecdopfmbgaaDoorRows
import GoSem.ClaimSeven
namespace Go.Proofs.YtolaecdopfmbgaaDoor
namespace Rows

/-- THE TIED CARD OF 'stillagelaw17.ManifestTexts'. -/
def manifestTextsCard : Claim7 := { stood := { row := manifestTextsRow, standIns := [], harness := (true, "16f9b3f42ee469f00653c869f19e2cbbff9ae84458a5c2a2f4e1ad37291f1ea1"), looks := true }, kinds := [], alts := [], laidByText := true, laidKinds := [.data, .data, .data, .sentinel, .sentinel], laidTests := true, laidLooks := .later }
def ManifestTextsCardSaid : Prop := Claim7.holds Tryd.pinned (.plain (OpenSpec.ofChange manifestTextsSpec)) manifestTextsCard

/-- THE TIED CARD OF 'stillagelaw17.ManifestReads'. -/
def manifestReadsCard : Claim7 := { stood := { row := manifestReadsRow, standIns := [], harness := (true, "16f9b3f42ee469f00653c869f19e2cbbff9ae84458a5c2a2f4e1ad37291f1ea1"), looks := true }, kinds := [], alts := [], laidByText := true, laidKinds := [.data, .data, .data, .sentinel, .sentinel], laidTests := true, laidLooks := .later }
def ManifestReadsCardSaid : Prop := Claim7.holds Tryd.pinned (.plain (OpenSpec.ofChange manifestReadsSpec)) manifestReadsCard

/-- THE TIED CARD OF 'stillagelaw17.ManifestBack'. -/
def manifestBackCard : Claim7 := { stood := { row := manifestBackRow, standIns := [], harness := (true, "16f9b3f42ee469f00653c869f19e2cbbff9ae84458a5c2a2f4e1ad37291f1ea1"), looks := true }, kinds := [], alts := [], laidByText := true, laidKinds := [.data, .data, .data, .sentinel, .sentinel], laidTests := true, laidLooks := .later }
def ManifestBackCardSaid : Prop := Claim7.holds Tryd.pinned (.plain (OpenSpec.ofChange manifestBackSpec)) manifestBackCard

/-- THE TIED CARD OF 'stillagelaw53.ReportPercents'. -/
def reportPercentsCard : Claim7 := { stood := { row := reportPercentsRow, standIns := [], harness := (true, "16f9b3f42ee469f00653c869f19e2cbbff9ae84458a5c2a2f4e1ad37291f1ea1"), looks := true }, kinds := [], alts := [], laidByText := true, laidKinds := [.data, .data, .data, .data, .pinned], laidTests := true, laidLooks := .later }
def ReportPercentsCardSaid : Prop := Claim7.holds Tryd.pinned (.plain (OpenSpec.ofChange reportPercentsSpec)) reportPercentsCard

/-- THE TIED CARD OF 'stillagelaw52.RetainKeeps'. -/
def retainKeepsCard : Claim7 := { stood := { row := retainKeepsRow, standIns := [], harness := (true, "16f9b3f42ee469f00653c869f19e2cbbff9ae84458a5c2a2f4e1ad37291f1ea1"), looks := true }, kinds := [], alts := [], laidByText := true, laidKinds := [.data, .pinned], laidTests := true, laidLooks := .later }
def RetainKeepsCardSaid : Prop := Claim7.holds Tryd.pinned (.plain (OpenSpec.ofChange retainKeepsSpec)) retainKeepsCard

/-- THE TIED CARD OF 'stillagelaw52.RetainAgain'. -/
def retainAgainCard : Claim7 := { stood := { row := retainAgainRow, standIns := [], harness := (true, "16f9b3f42ee469f00653c869f19e2cbbff9ae84458a5c2a2f4e1ad37291f1ea1"), looks := true }, kinds := [], alts := [], laidByText := true, laidKinds := [.data, .pinned], laidTests := true, laidLooks := .later }
def RetainAgainCardSaid : Prop := Claim7.holds Tryd.pinned (.plain (OpenSpec.ofChange retainAgainSpec)) retainAgainCard

/-- THE SECOND FORM's CARD OF 'stillagelaw17.ManifestTexts'. -/
def manifestTextsUptoCard : Claim7 := { stood := { row := manifestTextsUptoRow, standIns := [], harness := (true, "16f9b3f42ee469f00653c869f19e2cbbff9ae84458a5c2a2f4e1ad37291f1ea1"), looks := true }, kinds := [], alts := [], laidByText := true, laidKinds := [.data, .data, .data, .sentinel, .sentinel], laidTests := true, laidLooks := .later }
def ManifestTextsUptoCardSaid : Prop := Claim7.holds Tryd.pinned (.plain (OpenSpec.upto manifestTextsSpec)) manifestTextsUptoCard

/-- THE SECOND FORM's CARD OF 'stillagelaw17.ManifestReads'. -/
def manifestReadsUptoCard : Claim7 := { stood := { row := manifestReadsUptoRow, standIns := [], harness := (true, "16f9b3f42ee469f00653c869f19e2cbbff9ae84458a5c2a2f4e1ad37291f1ea1"), looks := true }, kinds := [], alts := [], laidByText := true, laidKinds := [.data, .data, .data, .sentinel, .sentinel], laidTests := true, laidLooks := .later }
def ManifestReadsUptoCardSaid : Prop := Claim7.holds Tryd.pinned (.plain (OpenSpec.upto manifestReadsSpec)) manifestReadsUptoCard

/-- THE SECOND FORM's CARD OF 'stillagelaw17.ManifestBack'. -/
def manifestBackUptoCard : Claim7 := { stood := { row := manifestBackUptoRow, standIns := [], harness := (true, "16f9b3f42ee469f00653c869f19e2cbbff9ae84458a5c2a2f4e1ad37291f1ea1"), looks := true }, kinds := [], alts := [], laidByText := true, laidKinds := [.data, .data, .data, .sentinel, .sentinel], laidTests := true, laidLooks := .later }
def ManifestBackUptoCardSaid : Prop := Claim7.holds Tryd.pinned (.plain (OpenSpec.upto manifestBackSpec)) manifestBackUptoCard

/-- THE SECOND FORM's CARD OF 'stillagelaw53.ReportPercents'. -/
def reportPercentsUptoCard : Claim7 := { stood := { row := reportPercentsUptoRow, standIns := [], harness := (true, "16f9b3f42ee469f00653c869f19e2cbbff9ae84458a5c2a2f4e1ad37291f1ea1"), looks := true }, kinds := [], alts := [], laidByText := true, laidKinds := [.data, .data, .data, .data, .pinned], laidTests := true, laidLooks := .later }
def ReportPercentsUptoCardSaid : Prop := Claim7.holds Tryd.pinned (.plain (OpenSpec.upto reportPercentsSpec)) reportPercentsUptoCard

/-- THE SECOND FORM's CARD OF 'stillagelaw52.RetainKeeps'. -/
def retainKeepsUptoCard : Claim7 := { stood := { row := retainKeepsUptoRow, standIns := [], harness := (true, "16f9b3f42ee469f00653c869f19e2cbbff9ae84458a5c2a2f4e1ad37291f1ea1"), looks := true }, kinds := [], alts := [], laidByText := true, laidKinds := [.data, .pinned], laidTests := true, laidLooks := .later }
def RetainKeepsUptoCardSaid : Prop := Claim7.holds Tryd.pinned (.plain (OpenSpec.upto retainKeepsSpec)) retainKeepsUptoCard

/-- THE SECOND FORM's CARD OF 'stillagelaw52.RetainAgain'. -/
def retainAgainUptoCard : Claim7 := { stood := { row := retainAgainUptoRow, standIns := [], harness := (true, "16f9b3f42ee469f00653c869f19e2cbbff9ae84458a5c2a2f4e1ad37291f1ea1"), looks := true }, kinds := [], alts := [], laidByText := true, laidKinds := [.data, .pinned], laidTests := true, laidLooks := .later }
def RetainAgainUptoCardSaid : Prop := Claim7.holds Tryd.pinned (.plain (OpenSpec.upto retainAgainSpec)) retainAgainUptoCard
end Rows
end Go.Proofs.YtolaecdopfmbgaaDoor
