/-
  No cell of these rows narrows 'for every input' (looked for: loops, veiled, ifaces, maps, wideKeys, modest, calm, conditions, laid).
  DERIVED. THE GIVEN ROWS OF THIS SEAT. 3 by the template 'for every input the law returns true; each argument reads behind the call as it read before'; 0 by the template 'total and deterministic' (their statements: YtolaecdopfmbgaaTotals.lean).
  GIVEN WITH THE SEED: the statements are not yours to turn. If you find one false, say at which input.
  Laid BY PROGRAM, IN A SANDBOX (cutbox-rows.mjs): the forced cells as the released guide's own fill.sh prints them over the translation 6987746b57a68c96… (all of the seat's roots in one cut). By AI agents, Wed Nov 11 2026. No macro, syntax, notation, axiom, sorry.
-/
import Derived.Test.YtolaecdopfmbgaaChecked
import GoSem.Claim
import GoSem.ClaimJoined
import GoSem.ClaimMapViews
import Derived.JoinedTies
import Derived.KernelRfl
namespace Go.Proofs.Ytolaecdopfmbgaa
/- THE CELL 'sum', in the pinned program and in every row, IS THE sha256 OF THE DUMP (.gsa) THAT YtolaecdopfmbgaaProg.lean LOADS. Nothing in Lean hashes anything: it is a label: what it is worth is what the hold of that sum in a sandbox is worth. -/
noncomputable def Try.pinned : Pinned := { name := "ytolaecdopfmbgaa", sum := "6987746b57a68c96ad48994bbd70540f932b9aa79cc3090b8a08ceec95f57222", checked := Try.checked }
namespace Rows
def none {H : Type} : Left H := { results := [], args := [] }

/-- 'stillagelaw50.GlobMatches': WHATEVER THE INPUT: true; the input reads as it did. -/
def globMatchesSpec : ChangeSpec := { name := "globMatches", fn := fun _ => fun
  | [d1, d2] => { results := [.lit (.bool true)], args := [d1, d2] }
  | _ => none }
def globMatchesRow : OpenClaim := { program := "ytolaecdopfmbgaa", sum := "6987746b57a68c96ad48994bbd70540f932b9aa79cc3090b8a08ceec95f57222", func := "stillage/stillagelaw50.GlobMatches", spec := "globMatches", inPlace := ["internal/bytealg.IndexByteString"], unfollowed := true, recurses := true, apart := false }
def GlobMatchesSaid : Prop := globMatchesRow.holds Try.pinned (OpenSpec.ofChange globMatchesSpec)

/-- ITS FALSE NEIGHBOUR: 'it returns false'. Refute it at one input. -/
def globMatchesWrong : ChangeSpec := { name := "globMatches", fn := fun _ => fun
  | [d1, d2] => { results := [.lit (.bool false)], args := [d1, d2] }
  | _ => none }
def GlobMatchesWrongFalsely : Prop := globMatchesRow.holds Try.pinned (OpenSpec.ofChange globMatchesWrong)

/-- 'stillagelaw50.GlobEnds': WHATEVER THE INPUT: true; the input reads as it did. -/
def globEndsSpec : ChangeSpec := { name := "globEnds", fn := fun _ => fun
  | [d1, d2, d3] => { results := [.lit (.bool true)], args := [d1, d2, d3] }
  | _ => none }
def globEndsRow : OpenClaim := { program := "ytolaecdopfmbgaa", sum := "6987746b57a68c96ad48994bbd70540f932b9aa79cc3090b8a08ceec95f57222", func := "stillage/stillagelaw50.GlobEnds", spec := "globEnds", inPlace := ["internal/bytealg.IndexByteString"], unfollowed := true, recurses := true, apart := false }
def GlobEndsSaid : Prop := globEndsRow.holds Try.pinned (OpenSpec.ofChange globEndsSpec)

/-- ITS FALSE NEIGHBOUR: 'it returns false'. Refute it at one input. -/
def globEndsWrong : ChangeSpec := { name := "globEnds", fn := fun _ => fun
  | [d1, d2, d3] => { results := [.lit (.bool false)], args := [d1, d2, d3] }
  | _ => none }
def GlobEndsWrongFalsely : Prop := globEndsRow.holds Try.pinned (OpenSpec.ofChange globEndsWrong)

/-- 'stillagelaw50.GlobPicks': WHATEVER THE INPUT: true; the input reads as it did. -/
def globPicksSpec : ChangeSpec := { name := "globPicks", fn := fun _ => fun
  | [d1, d2] => { results := [.lit (.bool true)], args := [d1, d2] }
  | _ => none }
def globPicksRow : OpenClaim := { program := "ytolaecdopfmbgaa", sum := "6987746b57a68c96ad48994bbd70540f932b9aa79cc3090b8a08ceec95f57222", func := "stillage/stillagelaw50.GlobPicks", spec := "globPicks", inPlace := ["internal/bytealg.IndexByteString"], unfollowed := true, recurses := true, apart := false }
def GlobPicksSaid : Prop := globPicksRow.holds Try.pinned (OpenSpec.ofChange globPicksSpec)

/-- ITS FALSE NEIGHBOUR: 'it returns false'. Refute it at one input. -/
def globPicksWrong : ChangeSpec := { name := "globPicks", fn := fun _ => fun
  | [d1, d2] => { results := [.lit (.bool false)], args := [d1, d2] }
  | _ => none }
def GlobPicksWrongFalsely : Prop := globPicksRow.holds Try.pinned (OpenSpec.ofChange globPicksWrong)

/- THE SECOND FORM. 'bulk': how many values and letters a reading holds, each counted each time it is reached (what is shared counts as often as it is met; a slice's spare places count too). A statement '..UptoSaid' is the law's where the arguments, and the package variables that the reading takes, are together of bulk at most 1048576: NARROWER than '..Said'. Prove '..Said' where nothing that the law and all that it calls make is longer than what came in: it says more and counts as full. Else prove '..UptoSaid'. A law counts once. -/
mutual
def uptoBulk {H : Type} : DataW H → Nat
  | .lit (.string bytes) => bytes.length + 1
  | .lit _ => 1
  | .nil => 1
  | .ptr d => uptoBulk d + 1
  | .slice elems spare => uptoBulkAll elems + uptoBulkAll spare + 1
  | .agg parts => uptoBulkAll parts + 1
  | .iface _ d => uptoBulk d + 1
  | .map entries => uptoBulkEntries entries + 1
  | .held _ => 1
def uptoBulkAll {H : Type} : List (DataW H) → Nat
  | [] => 0
  | d :: r => uptoBulk d + uptoBulkAll r
def uptoBulkEntries {H : Type} : List (Lit × DataW H) → Nat
  | [] => 0
  | x :: r => uptoBulkEntry x + uptoBulkEntries r
def uptoBulkEntry {H : Type} : Lit × DataW H → Nat
  | (.string bytes, d) => bytes.length + uptoBulk d + 1
  | (_, d) => uptoBulk d + 1
 end
def uptoSmall : (H : Type) → List (DataW H) → Bool := fun _ ds => decide (uptoBulkAll ds ≤ 1048576)
def OpenSpec.upto (s : _root_.Go.ChangeSpec) : _root_.Go.OpenSpec := { _root_.Go.OpenSpec.ofChange s with cond := some uptoSmall }

/-- 'stillagelaw50.GlobMatches', WHERE WHAT IT READS IS OF BULK AT MOST 1048576: true; the input reads as it did. -/
def globMatchesUptoRow : OpenClaim := { program := "ytolaecdopfmbgaa", sum := "6987746b57a68c96ad48994bbd70540f932b9aa79cc3090b8a08ceec95f57222", func := "stillage/stillagelaw50.GlobMatches", spec := "globMatches", inPlace := ["internal/bytealg.IndexByteString"], unfollowed := true, recurses := true, apart := false, narrowed := true }
def GlobMatchesUptoSaid : Prop := globMatchesUptoRow.holds Try.pinned (OpenSpec.upto globMatchesSpec)

/-- 'stillagelaw50.GlobEnds', WHERE WHAT IT READS IS OF BULK AT MOST 1048576: true; the input reads as it did. -/
def globEndsUptoRow : OpenClaim := { program := "ytolaecdopfmbgaa", sum := "6987746b57a68c96ad48994bbd70540f932b9aa79cc3090b8a08ceec95f57222", func := "stillage/stillagelaw50.GlobEnds", spec := "globEnds", inPlace := ["internal/bytealg.IndexByteString"], unfollowed := true, recurses := true, apart := false, narrowed := true }
def GlobEndsUptoSaid : Prop := globEndsUptoRow.holds Try.pinned (OpenSpec.upto globEndsSpec)

/-- 'stillagelaw50.GlobPicks', WHERE WHAT IT READS IS OF BULK AT MOST 1048576: true; the input reads as it did. -/
def globPicksUptoRow : OpenClaim := { program := "ytolaecdopfmbgaa", sum := "6987746b57a68c96ad48994bbd70540f932b9aa79cc3090b8a08ceec95f57222", func := "stillage/stillagelaw50.GlobPicks", spec := "globPicks", inPlace := ["internal/bytealg.IndexByteString"], unfollowed := true, recurses := true, apart := false, narrowed := true }
def GlobPicksUptoSaid : Prop := globPicksUptoRow.holds Try.pinned (OpenSpec.upto globPicksSpec)

end Rows
end Go.Proofs.Ytolaecdopfmbgaa
