/- The tied card of RetainAgain, second form: the law returns true for every row of rules and of names of bulk at most 1048576, the listed variables tied to the program's text. No other condition. -/
import Derived.Test.YtolaecdopfmbgaaDoorTie
import Derived.Test.YtolaecdopfmbgaaDoorCards
import Derived.Test.YtolaecdopfmbgaaDoorZAgain
import Derived.SevenTiedAt
namespace Go.Proofs.YtolaecdopfmbgaaDoor.retainAgain
open Go

theorem proved : Rows.RetainAgainUptoCardSaid :=
  Claim7.holds_tied_plain_at .later [] [.data, .pinned] true (true, "16f9b3f42ee469f00653c869f19e2cbbff9ae84458a5c2a2f4e1ad37291f1ea1") true
    row_holds (fun _ h => by cases h) (by kernel_rfl) (fun _ h => by cases h) retainAgainUpto_row_tie rfl ⟨rfl, rfl⟩ (by kernel_rfl) rfl
    (fun f fn hf hfn => by
      obtain rfl : f = 8 := Option.some.inj ((show Tryd.prog.funcNamed "stillage/stillagelaw52.RetainAgain" = some 8 by kernel_rfl).symm.trans hf) |>.symm
      obtain rfl : fn = Tryd.f8 := (Option.some.inj (Tryd.func8.symm.trans hfn)).symm
      exact ⟨by kernel_rfl, fun j t ht => by
        rw [Tryd.params8] at ht
        have hm : t ∈ [45, 46] := by simpa using Array.mem_of_getElem? ht
        have hall : ([45, 46].all fun u => !Tryd.prog.wantsStandIn u) = true := by kernel_rfl
        exact (show Tryd.prog.wantsStandIn t = false by simpa using List.all_eq_true.1 hall t hm)⟩)
    (by kernel_rfl)
#print axioms proved
end Go.Proofs.YtolaecdopfmbgaaDoor.retainAgain
