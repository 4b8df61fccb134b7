/- The tied card of LineBack, second form: the law returns true for every operation and every line of bulk at most 1048576, the listed variables tied to the program's text. No other condition. -/
import Derived.Test.YtjplfkcelkijfaaDoorTie
import Derived.Test.YtjplfkcelkijfaaDoorCards
import Derived.Test.YtjplfkcelkijfaaDoorZBack
import Derived.SevenTiedAt
namespace Go.Proofs.YtjplfkcelkijfaaDoor.lineBack
open Go

theorem proved : Rows.LineBackUptoCardSaid :=
  Claim7.holds_tied_plain_at .later [] [.data, .data, .data, .data, .sentinel, .sentinel, .pinned] true (true, "9a8d9997fff0bb0688a79a647590fd9c6e5b6a29b0e470ba0252d18cf486817d") true
    row_holds (fun _ h => by cases h) (by kernel_rfl) (fun _ h => by cases h) lineBackUpto_row_tie rfl ⟨rfl, rfl⟩ (by kernel_rfl) rfl
    (fun f fn hf hfn => by
      obtain rfl : f = 4 := Option.some.inj ((show Tryd.prog.funcNamed "stillage/stillagelaw41.LineBack" = some 4 by kernel_rfl).symm.trans hf) |>.symm
      obtain rfl : fn = Tryd.f4 := (Option.some.inj (Tryd.func4.symm.trans hfn)).symm
      exact ⟨by kernel_rfl, fun j t ht => by
        rw [Tryd.params4] at ht
        have hm : t ∈ [26, 9] := by simpa using Array.mem_of_getElem? ht
        have hall : ([26, 9].all fun u => !Tryd.prog.wantsStandIn u) = true := by kernel_rfl
        exact (show Tryd.prog.wantsStandIn t = false by simpa using List.all_eq_true.1 hall t hm)⟩)
    (by kernel_rfl)
#print axioms proved
end Go.Proofs.YtjplfkcelkijfaaDoor.lineBack
