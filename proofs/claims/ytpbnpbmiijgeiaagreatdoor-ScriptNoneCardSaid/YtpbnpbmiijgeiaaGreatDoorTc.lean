/- What the program's text lays in the listed variables, third part: the run ends. No condition. -/
import Derived.Test.YtpbnpbmiijgeiaaGreatDoorTa
import Derived.LaidByTextLater
import Derived.SevenTiedAt
namespace Go.Proofs.YtpbnpbmiijgeiaaGreatDoor
open Go
theorem tie7 (os : Os) (tape : Tape) : varsDone Tryz.prog 400 (varsId Tryz.prog) os tape = true := by kernel_rfl
end Go.Proofs.YtpbnpbmiijgeiaaGreatDoor
