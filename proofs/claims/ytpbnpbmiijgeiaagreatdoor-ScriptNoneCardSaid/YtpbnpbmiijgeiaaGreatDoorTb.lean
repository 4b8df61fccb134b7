/- What the program's text lays in the listed variables, second part: the names that it lays. No condition. -/
import Derived.Test.YtpbnpbmiijgeiaaGreatDoorTa
import Derived.LaidByTextLater
import Derived.SevenTiedAt
namespace Go.Proofs.YtpbnpbmiijgeiaaGreatDoor
open Go
theorem tie6 : varsNamedLaterB Tryz.prog (varsId Tryz.prog) laidT = true := by kernel_rfl
end Go.Proofs.YtpbnpbmiijgeiaaGreatDoor
