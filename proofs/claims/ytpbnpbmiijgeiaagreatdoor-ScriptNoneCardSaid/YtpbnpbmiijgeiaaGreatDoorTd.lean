/- What the program's text lays in the listed variables, fourth part: what they read behind the run. No condition. -/
import Derived.Test.YtpbnpbmiijgeiaaGreatDoorTa
import Derived.LaidByTextLater
import Derived.SevenTiedAt
namespace Go.Proofs.YtpbnpbmiijgeiaaGreatDoor
open Go
theorem tie8 (os : Os) (tape : Tape) : (DataW.laidRun Tryz.prog (varsWorld Tryz.prog 400 (varsId Tryz.prog) os tape).memory 8 (laidT.map (·.1))).map (·.1) = some laidT := by kernel_rfl
end Go.Proofs.YtpbnpbmiijgeiaaGreatDoor
