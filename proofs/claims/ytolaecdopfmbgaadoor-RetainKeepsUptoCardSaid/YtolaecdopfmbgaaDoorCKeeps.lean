/- The tied card of RetainKeeps, second form: the law returns true for every row of rules and of names of bulk at most 1048576, the listed variables tied to the program's text. No other condition. -/
import Derived.Test.YtolaecdopfmbgaaDoorTie
import Derived.Test.YtolaecdopfmbgaaDoorCards
import Derived.Test.YtolaecdopfmbgaaDoorZKeeps
import Derived.SevenTiedAt
namespace Go.Proofs.YtolaecdopfmbgaaDoor.retainKeeps
open Go

theorem proved : Rows.RetainKeepsUptoCardSaid :=
  Claim7.holds_tied_plain_at .later [] [.data, .pinned] true (true, "16f9b3f42ee469f00653c869f19e2cbbff9ae84458a5c2a2f4e1ad37291f1ea1") true
    row_holds (fun _ h => by cases h) (by kernel_rfl) (fun _ h => by cases h) retainKeepsUpto_row_tie rfl ⟨rfl, rfl⟩ (by kernel_rfl) rfl
    (fun f fn hf hfn => by
      obtain rfl : f = 7 := Option.some.inj ((show Tryd.prog.funcNamed "stillage/stillagelaw52.RetainKeeps" = some 7 by kernel_rfl).symm.trans hf) |>.symm
      obtain rfl : fn = Tryd.f7 := (Option.some.inj (Tryd.func7.symm.trans hfn)).symm
      exact ⟨by kernel_rfl, fun j t ht => by
        rw [Tryd.params7] at ht
        have hm : t ∈ [45, 46] := by simpa using Array.mem_of_getElem? ht
        have hall : ([45, 46].all fun u => !Tryd.prog.wantsStandIn u) = true := by kernel_rfl
        exact (show Tryd.prog.wantsStandIn t = false by simpa using List.all_eq_true.1 hall t hm)⟩)
    (by kernel_rfl)
#print axioms proved
end Go.Proofs.YtolaecdopfmbgaaDoor.retainKeeps
