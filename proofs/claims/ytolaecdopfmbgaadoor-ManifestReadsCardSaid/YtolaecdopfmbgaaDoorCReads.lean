/- The tied card of ManifestReads: the law returns true for every text, the listed variables tied to the program's text. No other condition. -/
import Derived.Test.YtolaecdopfmbgaaDoorTie
import Derived.Test.YtolaecdopfmbgaaDoorCards
import Derived.Test.YtolaecdopfmbgaaDoorZReads
import Derived.SevenTiedAt
namespace Go.Proofs.YtolaecdopfmbgaaDoor.manifestReads
open Go

theorem proved : Rows.ManifestReadsCardSaid :=
  Claim7.holds_tied_plain_at .later [] [.data, .data, .data, .sentinel, .sentinel] true (true, "16f9b3f42ee469f00653c869f19e2cbbff9ae84458a5c2a2f4e1ad37291f1ea1") true
    row_holds (fun _ h => by cases h) (by kernel_rfl) (fun _ h => by cases h) manifestReads_row_tie rfl ⟨rfl, rfl⟩ (by kernel_rfl) rfl
    (fun f fn hf hfn => by
      obtain rfl : f = 4 := Option.some.inj ((show Tryd.prog.funcNamed "stillage/stillagelaw17.ManifestReads" = some 4 by kernel_rfl).symm.trans hf) |>.symm
      obtain rfl : fn = Tryd.f4 := (Option.some.inj (Tryd.func4.symm.trans hfn)).symm
      exact ⟨by kernel_rfl, fun j t ht => by
        rw [Tryd.params4] at ht
        have hm : t ∈ [23] := by simpa using Array.mem_of_getElem? ht
        have hall : ([23].all fun u => !Tryd.prog.wantsStandIn u) = true := by kernel_rfl
        exact (show Tryd.prog.wantsStandIn t = false by simpa using List.all_eq_true.1 hall t hm)⟩)
    (by kernel_rfl)
#print axioms proved
end Go.Proofs.YtolaecdopfmbgaaDoor.manifestReads
