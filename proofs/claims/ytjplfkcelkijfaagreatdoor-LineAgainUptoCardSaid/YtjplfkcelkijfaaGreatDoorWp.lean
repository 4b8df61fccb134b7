/- The law's own lives. Condition: what lies in variables. -/
import Derived.Test.YtjplfkcelkijfaaGreatDoorWo
namespace Go.Proofs.YtjplfkcelkijfaaGreatDoor
open Go.RowKit

theorem wpList_load_opG {ops : Array Oper} {rest : List Oper} {a : Act} {w : World} {Q : Exit → Act → World → Prop} {d : Option Tmp} {x : Tmp} {ty : TypeId} {pos : String} {after : Array Edge} {gd : Option (Nat × Bool)}
    (g : Nat) (cs : List Value) (hx : a.tmps.getD x undef = .pointer (some ⟨g, 0, none⟩)) (hc : w.rangeAt g 0 cs) (hf : cs.length = 38)
    (hw : Region.wanted { dst := d, op := .load 26 (.tmp x), type := ty, pos := pos, after := after, guard := gd } (yielded ops a.tmps) = true)
    (h : wpList Tryz.prog ops Q rest (a.put d (.agg cs.toArray)) w) :
    wpList Tryz.prog ops Q ({ dst := d, op := .load 26 (.tmp x), type := ty, pos := pos, after := after, guard := gd } :: rest) a w := by
  refine wpList_valG hw (.agg cs.toArray) ?_ h
  have hx' : a.eval (.tmp x) = .pointer (some ⟨g, 0, none⟩) := hx
  obtain ⟨fs, hu⟩ := u26
  simp only [execOp, hx', Instr.loadAt, Instr.sureAddr, Sem.run_bind, Sem.run_pure, Result.andThen_ok, run_loadVar_mid w g 0 26 cs _ hc hu rfl (by rw [size26, hf])]
def livesX : OpV := ⟨2, 1, 20, 0, [], zeroD, [10, 255]⟩
def livesL : List UInt8 := [99, 104, 117, 110, 107, 32, 49, 32, 50, 48, 32, 120, 48, 97, 102, 102]
theorem lives_read : readV livesL = (livesX, 0) := by kernel_rfl
theorem lives_text : textL livesX = livesL := by kernel_rfl
set_option maxRecDepth 100000 in
theorem built_lives (A : Option Addr) (n c : Nat) : Tryz.prog.built 26 [(0, .int .i64 2), (1, .int .i64 1), (2, .int .i64 20), (6, .slice A n c)] = some (opV livesX (.slice A n c)).toArray := by kernel_rfl
theorem wpList_build_livesG {ops : Array Oper} {rest : List Oper} {a : Act} {w : World} {Q : Exit → Act → World → Prop} {d : Option Tmp} {x : Tmp} {ty : TypeId} {pos : String} {after : Array Edge} {gd : Option (Nat × Bool)}
    (A : Option Addr) (n c : Nat) (hx : a.tmps.getD x undef = .slice A n c)
    (hw : Region.wanted { dst := d, op := .build 26 #[(0, .const (.int .i64 2)), (1, .const (.int .i64 1)), (2, .const (.int .i64 20)), (6, .tmp x)], type := ty, pos := pos, after := after, guard := gd } (yielded ops a.tmps) = true)
    (h : wpList Tryz.prog ops Q rest (a.put d (.agg (opV livesX (.slice A n c)).toArray)) w) :
    wpList Tryz.prog ops Q ({ dst := d, op := .build 26 #[(0, .const (.int .i64 2)), (1, .const (.int .i64 1)), (2, .const (.int .i64 20)), (6, .tmp x)], type := ty, pos := pos, after := after, guard := gd } :: rest) a w := by
  refine wpList_valG hw _ ?_ h
  have hx' : a.eval (.tmp x) = .slice A n c := hx
  have e : (Array.map (fun p : Nat × Operand => (p.1, a.eval p.2)) #[(0, .const (.int .i64 2)), (1, .const (.int .i64 1)), (2, .const (.int .i64 20)), (6, .tmp x)]) = #[(0, .int .i64 2), (1, .int .i64 1), (2, .int .i64 20), (6, .slice A n c)] := by
    simp only [List.map_toArray, List.map_cons, List.map_nil]
    rw [hx']; rfl
  have hl := run_build (P := Tryz.prog) w 26 #[(0, .int .i64 2), (1, .int .i64 1), (2, .int .i64 20), (6, .slice A n c)] _ (built_lives A n c)
  simp only [execOp, e, Sem.run_bind, hl, Result.andThen_ok, Sem.run_pure]
/-- a variable of a call's own, into which an operation is stored -/
theorem op_stored (w : World) (x : OpV) (v : Value) : ((w.alloc (.cells (opV zeroOp (.slice none 0 0)).toArray 26)).setRow w.heap.size (opV x v).toArray).rangeAt w.heap.size 0 (opV x v) ∧
    Below w.heap.size w ((w.alloc (.cells (opV zeroOp (.slice none 0 0)).toArray 26)).setRow w.heap.size (opV x v).toArray) :=
  ⟨rangeAt_of_row (setRow_heap _ _ _ _ _ _ (World.alloc_heap_new _ _)), below_setRow ((Below.refl _ _).alloc (Nat.le_refl _) _) (Nat.le_refl _) _⟩
theorem lives_fits : livesX.fits := ⟨⟨by decide, by decide⟩, ⟨by decide, by decide⟩, ⟨by decide, by decide⟩, ⟨by decide, by decide⟩, zeroD_length⟩
theorem bytes_lit (w : World) : CellsIn (w.alloc (.cells #[.int .u8 10, .int .u8 255] 5)) (some ⟨w.heap.size, 0, none⟩) (Lib.byteCells livesX.b) := cellsIn_of_range (rangeAt_new w [.int .u8 10, .int .u8 255] 5)
set_option maxHeartbeats 2000000 in
set_option maxRecDepth 100000 in
theorem lives_calls (w : World) (hE : LEnv w) : Calls Tryz.prog 10 #[] w fun e w' => e = .returned (.bool true) ∧ Below w.heap.size w w' := by
  have hR := read_calls ⟨#[99, 104, 117, 110, 107, 32, 49, 32, 50, 48, 32, 120, 48, 97, 102, 102]⟩ w (by decide) hE
  rw [show (⟨#[99, 104, 117, 110, 107, 32, 49, 32, 50, 48, 32, 120, 48, 97, 102, 102]⟩ : ByteArray).data.toList = livesL from rfl, lives_read] at hR
  have HR := Lib.hid hR
  have HE := Lib.hid hE
  clear hR hE
  go_enter Tryz.func10, Tryz.ntmps10
  go_upto_region 2 with (first | (go_at_call 7; refine HR.out.mono ?_; rintro e w1 ⟨_, rfl, ⟨A, cap, rfl, hc⟩, hb1⟩) | ((with_reducible apply wpList_store_op w1.heap.size (c0 := opV zeroOp (.slice none 0 0))); (case hy => rfl); (case hx => rfl); (case hf => exact opV_length _ _ zeroD_length); (case hf0 => exact kindOp_len 0); (case h1 => exact opV_one _ _ rfl); (case hg => exact World.alloc_heap_new _ _)))
  change Code.wp _ _ _ _ ((w1.alloc (.cells (opV zeroOp (.slice none 0 0)).toArray 26)).setRow w1.heap.size (opV livesX (.slice A livesX.b.length cap)).toArray)
  obtain ⟨hrg, hb2⟩ := op_stored w1 livesX (.slice A livesX.b.length cap)
  have hc2 := hc.below hb2
  have hE2 := (HE.out.below hb1).below hb2
  have hb := hb1.trans (hb2.mono hb1.size)
  have hg : w1.heap.size < ((w1.alloc (.cells (opV zeroOp (.slice none 0 0)).toArray 26)).setRow w1.heap.size (opV livesX (.slice A livesX.b.length cap)).toArray).heap.size := World.block_lt_of_cell? _ _ (hrg 0 _ rfl)
  generalize (w1.alloc (.cells (opV zeroOp (.slice none 0 0)).toArray 26)).setRow w1.heap.size (opV livesX (.slice A livesX.b.length cap)).toArray = w2 at *
  generalize w1.heap.size = g at *
  have hb3 : Below w2.heap.size w2 (w2.alloc (.cells #[.int .u8 10, .int .u8 255] 5)) := (Below.refl _ _).alloc (Nat.le_refl _) _
  have HB3 := Lib.hid hb3
  have HS := Lib.hid (same_calls livesX A (some ⟨w2.heap.size, 0, none⟩) cap 2 (w2.alloc (.cells #[.int .u8 10, .int .u8 255] 5)) zeroD_length (hc2.below hb3) (bytes_lit w2) (by decide))
  have HRG := Lib.hid hrg
  have HC2 := Lib.hid hc2
  have HE2 := Lib.hid hE2
  have HB := Lib.hid hb
  have HTX := Lib.hid (fun W h1 h2 => text_calls livesX A cap W lives_fits h1 (by decide) (by decide) h2)
  rw [lives_text] at HTX
  clear hrg hc2 hE2 hb hc hb1 hb2 hb3
  go_wp2_with (first | ((with_reducible apply wpList_load_opG (w := w2) g (opV livesX (.slice A livesX.b.length cap))); rfl; exact HRG.out; exact opV_length _ _ zeroD_length; rfl) | ((with_reducible apply wpList_build_livesG); rfl; rfl) | (go_at_call 9; refine HS.out.mono ?_; rintro e w4 ⟨rfl, hb4⟩; have HB4 : Hid (Below w2.heap.size w2 w4) := HB3.out.trans (hb4.mono HB3.out.size); have HRG4 := Lib.hid (rangeAt_below HRG.out HB4.out); clear hb4) | ((with_reducible apply wpList_load_opG (w := w4) g (opV livesX (.slice A livesX.b.length cap))); rfl; exact HRG4.out; exact opV_length _ _ zeroD_length; rfl) | (go_at_call 24; refine (HTX.out _ (HC2.out.below HB4.out) (HE2.out.below HB4.out).env.1).mono ?_; rintro e w5 ⟨rfl, hb5⟩))
  go_ret
  exact ⟨rfl, HB.out.trans ((HB4.out.trans (hb5.mono HB4.out.size)).mono HB.out.size)⟩
end Go.Proofs.YtjplfkcelkijfaaGreatDoor
