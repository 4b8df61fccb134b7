/- What the rows of ManifestTexts, ManifestReads and ManifestBack lean on: the laid variables, and how references and bytes read. No condition. -/
import Derived.Test.YtolaecdopfmbgaaDoorRows
import Derived.Test.YtolaecdopfmbgaaDoorAh
import Derived.Lib.LaidTab
import Derived.Stop.LaidErr
import Derived.LaidMore
import Derived.LaidLaws
import Derived.SizedLaws
import Derived.WalkKit
import Derived.ProofKit
import Derived.OpenShut
import Derived.Deep.Slices
import Derived.Deep.Strs
namespace Go.Proofs.YtolaecdopfmbgaaDoor
open Go.ChangeShapes Go.WideShapes Go.ChangeAt Go.RowKit
set_option linter.unusedVariables false

theorem own : ownKnob Tryd.prog.godebug = none := by kernel_rfl
theorem laidOut : laidOutB Tryd.prog = true := by kernel_rfl
theorem gPow : Tryd.prog.globalNamed "internal/strconv.uint64pow10" = some 2 := by kernel_rfl
theorem gSyn : Tryd.prog.globalNamed "strconv.ErrSyntax" = some 4 := by kernel_rfl
theorem gRng : Tryd.prog.globalNamed "strconv.ErrRange" = some 5 := by kernel_rfl
theorem tPow : (Tryd.prog.globals[2]?).map (·.type) = some 193 := by kernel_rfl
theorem tSyn : (Tryd.prog.globals[4]?).map (·.type) = some 105 := by kernel_rfl
theorem tRng : (Tryd.prog.globals[5]?).map (·.type) = some 105 := by kernel_rfl
theorem uPow : ∃ e, Tryd.prog.underlying 193 = some (.array 20 e) ∧ Tryd.prog.underlying e = some (.int .u64) ∧ Tryd.prog.cellsOf e = 1 := ⟨66, by kernel_rfl, by kernel_rfl, by kernel_rfl⟩
theorem cPow : Tryd.prog.cellsOf 193 = 20 := by kernel_rfl
theorem uErr : ∃ ms, Tryd.prog.underlying 105 = some (.interface ms) := by
  have h : (match Tryd.prog.underlying 105 with | some (.interface _) => true | _ => false) = true := by kernel_rfl
  cases hq : Tryd.prog.underlying 105 with
  | none => rw [hq] at h; cases h
  | some d =>
    rw [hq] at h
    cases d <;> first | exact ⟨_, rfl⟩ | (simp at h)
theorem uPtr : Tryd.prog.underlying 234 = some (.pointer 236) := by kernel_rfl
theorem uStr : ∃ f, Tryd.prog.underlying 236 = some (.struct #[f]) ∧ f.type = 9 ∧ f.offset = 0 := by
  have h : (match Tryd.prog.underlying 236 with | some (.struct fs) => fs.toList.map (fun f => (f.type, f.offset)) == [(9, 0)] | _ => false) = true := by kernel_rfl
  cases hq : Tryd.prog.underlying 236 with
  | none => rw [hq] at h; cases h
  | some d =>
    rw [hq] at h
    cases d with
    | struct fs =>
      obtain ⟨l⟩ := fs
      cases l with
      | nil => cases h
      | cons f l =>
        cases l with
        | nil =>
          have h2 : [(f.type, f.offset)] = [(9, 0)] := by simpa using h
          simp only [List.cons.injEq, Prod.mk.injEq, and_true] at h2
          exact ⟨f, rfl, h2.1, h2.2⟩
        | cons g l => exact absurd h (by simp)
    | _ => cases h
theorem cells236 : Tryd.prog.cellsOf 236 = 1 := by kernel_rfl
theorem cells9 : Tryd.prog.cellsOf 9 = 1 := by kernel_rfl
theorem star : "*" ++ "errors.errorString" = "*errors.errorString" := by decide
theorem row234 (u : TypeId) (h : Tryd.prog.typeName? 3 u = some "*errors.errorString") : u = 234 :=
  typeName_ptr_named (nm := "errors.errorString") (by rw [star]; kernel_rfl) (by kernel_rfl) (by decide) u (by rw [star]; exact h)

def laid5 : List (String × DataW Unit) := [("math/bits.deBruijn32tab", Rows.laid_math_bits_deBruijn32tab), ("math/bits.deBruijn64tab", Rows.laid_math_bits_deBruijn64tab), ("internal/strconv.uint64pow10", Rows.laid_internal_strconv_uint64pow10), ("strconv.ErrRange", Rows.laid_strconv_ErrRange), ("strconv.ErrSyntax", Rows.laid_strconv_ErrSyntax)]
theorem powData : (Rows.laid_internal_strconv_uint64pow10 : DataW Unit) = Lib.tabData .u64 Lib.pow10Tab := by kernel_rfl
theorem env_of {W : World} (h : laidMetH Tryd.prog laid5 W) : Env W := by
  rw [MakeChecks.laidMetH_plain _ _ _ (by kernel_rfl)] at h
  unfold laid5 at h
  have h3 := h.tail.tail
  rw [powData] at h3
  obtain ⟨e, u1, u2, u3⟩ := uPow
  obtain ⟨ms, ui⟩ := uErr
  obtain ⟨f, us, hft, hfo⟩ := uStr
  refine ⟨Lib.tabIs_of_head gPow tPow u1 u2 u3 cPow h3, ?_, ?_⟩
  · obtain ⟨a, s, hv, _⟩ := laid_sentinel h3.tail.tail gSyn tSyn ui row234 uPtr us hft hfo Tryd.underlying9 cells236 cells9
    exact ⟨_, _, hv⟩
  · obtain ⟨a, s, hv, _⟩ := laid_sentinel h3.tail gRng tRng ui row234 uPtr us hft hfo Tryd.underlying9 cells236 cells9
    exact ⟨_, _, hv⟩
theorem door_met5 (os : Os) (args : Array Value) : laidMetH Tryd.prog laid5 ((World.doorLaid Tryd.prog 400 os).forCall (fun _ _ => 0) ⟨#[], args, []⟩).memory :=
  laidMetH_of_parts3 (fuel := 8) (laidMet_of_run' 8 (by kernel_rfl) (by kernel_rfl)) (by kernel_rfl) (by kernel_rfl)
end Go.Proofs.YtolaecdopfmbgaaDoor
