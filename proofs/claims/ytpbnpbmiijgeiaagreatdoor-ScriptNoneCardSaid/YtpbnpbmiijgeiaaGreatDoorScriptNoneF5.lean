/- No function of the program starts a goroutine: so the law starts none. No condition. -/
import Derived.Test.YtpbnpbmiijgeiaaGreatDoorRows
import Derived.SevenTiedAt
namespace Go.Proofs.YtpbnpbmiijgeiaaGreatDoor.scriptNone
open Go Go.Proofs.YtpbnpbmiijgeiaaGreatDoor
theorem goes_none {P : Program} (h : P.funcs.any Func.goes = false) (f : FuncId) : P.goes f = false := by
  have hg : ∀ g : FuncId, (P.funcs[g]?).any Func.goes = false := fun g => by
    cases hq : P.funcs[g]? with
    | none => rfl
    | some fn =>
      have hm : fn ∈ P.funcs := Array.mem_of_getElem? hq
      rw [Array.any_eq_false'] at h
      have := h fn hm
      simpa using this
  unfold Program.goes
  rw [h, Bool.and_false, Bool.or_false]
  rw [List.any_eq_false]
  intro g _
  rw [hg g]; decide
theorem goesBy_none {P : Program} (h : P.funcs.any Func.goes = false) (c : OpenClaim) : c.goesBy P = false := by
  unfold OpenClaim.goesBy Program.goesAt Program.goesFrom
  have h1 : (P.funcNamed c.func).any P.goes = false := by
    cases P.funcNamed c.func with
    | none => rfl
    | some f => exact goes_none h f
  have h2 : P.inits.toList.any P.goes = false := by
    rw [List.any_eq_false]
    intro f _
    rw [goes_none h f]; decide
  rw [h1, h2]
  cases c.start <;> rfl
theorem goes_all : Tryz.prog.funcs.any Func.goes = false := by kernel_rfl
theorem m6 : false = Rows.scriptNoneRow.goesBy Tryz.prog := (goesBy_none goes_all _).symm
end Go.Proofs.YtpbnpbmiijgeiaaGreatDoor.scriptNone
