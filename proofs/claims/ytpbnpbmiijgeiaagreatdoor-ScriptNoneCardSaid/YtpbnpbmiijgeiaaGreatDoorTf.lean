/- The tie of the listed variables to the program's text, joined. No condition. -/
import Derived.Test.YtpbnpbmiijgeiaaGreatDoorTb
import Derived.Test.YtpbnpbmiijgeiaaGreatDoorTc
import Derived.Test.YtpbnpbmiijgeiaaGreatDoorTd
import Derived.Test.YtpbnpbmiijgeiaaGreatDoorTe
namespace Go.Proofs.YtpbnpbmiijgeiaaGreatDoor
open Go
theorem tie0 : Tryz.prog.laidByTextLater laidT [.sentinel, .sentinel, .data, .data, .data, .data] true :=
  Program.laidByTextLater_by_run 400 8 tie1 tie2 tie3 tie4 tie5 tie6 tie7 tie8 tie9 tie10
theorem scriptNone_row_tie0 : Rows.scriptNoneRow.laidByTextAt .later Tryz.pinned [.sentinel, .sentinel, .data, .data, .data, .data] true :=
  OpenClaim.laidByTextAt_later rfl rfl tie0 noOwnUnsafe1
theorem scriptNoneUpto_row_tie0 : Rows.scriptNoneUptoRow.laidByTextAt .later Tryz.pinned [.sentinel, .sentinel, .data, .data, .data, .data] true :=
  OpenClaim.laidByTextAt_later rfl rfl tie0 noOwnUnsafe1
end Go.Proofs.YtpbnpbmiijgeiaaGreatDoor
