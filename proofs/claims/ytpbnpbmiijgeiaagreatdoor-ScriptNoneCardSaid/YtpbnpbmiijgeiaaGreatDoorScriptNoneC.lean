/- The tied card of ScriptNone: the law returns true whatever its arguments, the listed variables tied to the program's text. No other condition. -/
import Derived.Test.YtpbnpbmiijgeiaaGreatDoorTf
import Derived.Test.YtpbnpbmiijgeiaaGreatDoorCards
import Derived.Test.YtpbnpbmiijgeiaaGreatDoorScriptNoneN
import Derived.Test.YtpbnpbmiijgeiaaGreatDoorScriptNoneF3
import Derived.Test.YtpbnpbmiijgeiaaGreatDoorScriptNoneF4
import Derived.Test.YtpbnpbmiijgeiaaGreatDoorScriptNoneF5
import Derived.SevenTiedAt
namespace Go.Proofs.YtpbnpbmiijgeiaaGreatDoor.scriptNone
open Go

theorem proved : Rows.ScriptNoneCardSaid :=
  Claim7.holds_tied_plain_at .later [] [.sentinel, .sentinel, .data, .data, .data, .data] true (true, "0ee7a9f4ef8f1babadf6fc61ce10601e50afb53c7abc4e8a511a6178e7e81f63") true
    row_holds (fun _ h => by cases h) m1 (fun _ h => by cases h) scriptNone_row_tie0 rfl ⟨rfl, rfl⟩ m2 rfl
    (fun f fn hf hfn => by
      obtain rfl : f = 3 := Option.some.inj (m3.symm.trans hf) |>.symm
      obtain rfl : fn = Tryz.f3 := (Option.some.inj (Tryz.func3.symm.trans hfn)).symm
      exact ⟨m4, fun j t ht => by
        rw [Tryz.params3] at ht
        have hm : t ∈ [22] := by simpa using Array.mem_of_getElem? ht
        exact (show Tryz.prog.wantsStandIn t = false by simpa using List.all_eq_true.1 m5 t hm)⟩)
    m6
#print axioms proved
end Go.Proofs.YtpbnpbmiijgeiaaGreatDoor.scriptNone
