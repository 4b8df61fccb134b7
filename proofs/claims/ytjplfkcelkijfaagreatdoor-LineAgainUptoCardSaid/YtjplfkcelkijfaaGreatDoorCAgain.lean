/- The tied card of LineAgain, second form: the law returns true for every reply of bulk at most 1048576, the listed variables tied to the program's text. No other condition. -/
import Derived.Test.YtjplfkcelkijfaaGreatDoorTie
import Derived.Test.YtjplfkcelkijfaaGreatDoorCards
import Derived.Test.YtjplfkcelkijfaaGreatDoorZAgain
import Derived.SevenTiedAt
namespace Go.Proofs.YtjplfkcelkijfaaGreatDoor.lineAgain
open Go

theorem proved : Rows.LineAgainUptoCardSaid :=
  Claim7.holds_tied_plain_at .later [] [.data, .data, .data, .data, .sentinel, .sentinel, .pinned] true (true, "6dfeaed5dbca6a978ac15fe9502bffccd83f2911508e6e4e317cee8eaff046be") true
    row_holds (fun _ h => by cases h) (by kernel_rfl) (fun _ h => by cases h) lineAgainUpto_row_tie rfl ⟨rfl, rfl⟩ (by kernel_rfl) rfl
    (fun f fn hf hfn => by
      obtain rfl : f = 6 := Option.some.inj ((show Tryz.prog.funcNamed "stillage/stillagelaw41.LineAgain" = some 6 by kernel_rfl).symm.trans hf) |>.symm
      obtain rfl : fn = Tryz.f6 := (Option.some.inj (Tryz.func6.symm.trans hfn)).symm
      exact ⟨by kernel_rfl, fun j t ht => by
        rw [Tryz.params6] at ht
        have hm : t ∈ [37] := by simpa using Array.mem_of_getElem? ht
        have hall : ([37].all fun u => !Tryz.prog.wantsStandIn u) = true := by kernel_rfl
        exact (show Tryz.prog.wantsStandIn t = false by simpa using List.all_eq_true.1 hall t hm)⟩)
    (by kernel_rfl)
#print axioms proved
end Go.Proofs.YtjplfkcelkijfaaGreatDoor.lineAgain
