/- A reference to a blob is read: the statements' test of liveness. -/
import Derived.Test.YtolaecdopfmbgaaDoorAf
namespace Go.Proofs.YtolaecdopfmbgaaDoor
open Go.RowKit

def oneD : List UInt8 := 1 :: List.replicate 31 0
def oneR : Rf := ⟨false, oneD, 30⟩
theorem oneR_fits : oneR.fits := ⟨rfl, by decide, by decide⟩
theorem one_err : errT [oneR] = 0 := by decide +kernel
theorem one_len : (textT [oneR]).length = 91 := by decide +kernel
theorem one_read : readL (textT [oneR]) = ([oneR], 0) := by
  have h := read_text (L := [oneR]) (fun r hr => by obtain rfl : r = oneR := (by simpa using hr); exact oneR_fits) one_err
  unfold textT
  rw [if_pos one_err, h]
  rfl
theorem built39 : Tryd.prog.built 39 [(0, .int .u8 1)] = some (digV oneD).toArray := by kernel_rfl
theorem built41 : Tryd.prog.built 41 [(1, .agg (digV oneD).toArray), (2, .int .i64 30)] = some (refV oneR).toArray := by kernel_rfl
theorem wpList_build_oneD {ops : Array Oper} {rest : List Oper} {a : Act} {w : World} {Q : Exit → Act → World → Prop} {d : Option Tmp} {ty : TypeId} {pos : String} {after : Array Edge}
    (h : wpList Tryd.prog ops Q rest (a.put d (.agg (digV oneD).toArray)) w) :
    wpList Tryd.prog ops Q ({ dst := d, op := .build 39 #[(0, .const (.int .u8 1))], type := ty, pos := pos, after := after, guard := none } :: rest) a w := by
  refine wpList_plain rfl fun K hK => ?_
  have hl := run_build (P := Tryd.prog) w 39 #[(0, .int .u8 1)] (digV oneD).toArray built39
  have he : (#[(0, Operand.const (.int .u8 1))] : Array (Nat × Operand)).map (fun (i, x) => (i, a.eval x)) = #[(0, .int .u8 1)] := by simp [Act.eval]
  simp only [Oper.wp, execOp, he, Sem.run_bind, Sem.run_pure, Result.andThen_ok, hl]
  exact hK _ _ h
theorem wpList_build_oneR {ops : Array Oper} {rest : List Oper} {a : Act} {w : World} {Q : Exit → Act → World → Prop} {d : Option Tmp} {x : Tmp} {ty : TypeId} {pos : String} {after : Array Edge}
    (hx : a.tmps.getD x undef = .agg (digV oneD).toArray)
    (h : wpList Tryd.prog ops Q rest (a.put d (.agg (refV oneR).toArray)) w) :
    wpList Tryd.prog ops Q ({ dst := d, op := .build 41 #[(1, .tmp x), (2, .const (.int .i64 30))], type := ty, pos := pos, after := after, guard := none } :: rest) a w := by
  refine wpList_plain rfl fun K hK => ?_
  have hx' : a.eval (.tmp x) = .agg (digV oneD).toArray := hx
  have hl := run_build (P := Tryd.prog) w 41 #[(1, .agg (digV oneD).toArray), (2, .int .i64 30)] (refV oneR).toArray built41
  have he : (#[(1, Operand.tmp x), (2, Operand.const (.int .i64 30))] : Array (Nat × Operand)).map (fun (i, x) => (i, a.eval x)) = #[(1, .agg (digV oneD).toArray), (2, .int .i64 30)] := by
    have h2 : a.eval (.const (.int .i64 30)) = .int .i64 30 := rfl
    simp only [List.map_toArray, List.map_cons, List.map_nil, hx', h2]
  simp only [Oper.wp, execOp, he, Sem.run_bind, Sem.run_pure, Result.andThen_ok, hl]
  exact hK _ _ h
theorem one_in (w : World) : RefsIn (w.alloc (.cells (refV oneR).toArray 41)) (some ⟨w.heap.size, 0, none⟩) [oneR] := fun k r hk => by
  cases k with
  | zero =>
    obtain rfl : oneR = r := by simpa using hk
    exact ⟨oneR_fits, w.heap.size, 0, rfl, rangeAt_new w (refV oneR) 41⟩
  | succ k => simp at hk

set_option maxHeartbeats 2000000 in
set_option maxRecDepth 100000 in
theorem lives_calls (w : World) (hE : Env w) : Calls Tryd.prog 12 #[] w fun e w' => e = .returned (.bool true) ∧ Below w.heap.size w w' := by
  have hb0 : Below w.heap.size w (w.alloc (.cells (refV oneR).toArray 41)) := (Below.refl _ _).alloc (Nat.le_refl _) _
  have H9 := Lib.hid (text_calls (some ⟨w.heap.size, 0, none⟩) 1 [oneR] (w.alloc (.cells (refV oneR).toArray 41)) (by decide) (by decide) (one_in w) (hE.1.below hb0))
  have HIN := Lib.hid (one_in w)
  have HB0 := Lib.hid hb0
  have HE := Lib.hid hE
  clear hb0 hE
  go_enter Tryd.func12, Tryd.ntmps12
  go_upto_region 2 with (first | (with_reducible refine wpList_build_oneD ?_) | ((with_reducible apply wpList_build_oneR); rfl) | ((with_reducible apply wpList_buildSlice_ref oneR oneR_fits); rfl))
  generalize w.alloc (.cells (refV oneR).toArray 41) = w1 at *
  go_upto_region 3 with (first | (go_at_call 9; refine H9.out.mono ?_; rintro e w2 ⟨A2, cap2, he, hC2, hb2⟩; rw [one_len, one_err] at he; subst he))
  have h13 := readAll_calls A2 cap2 (textT [oneR]) w2 (by rw [one_len]; omega) hC2 (HE.out.below (HB0.out.trans (hb2.mono HB0.out.size)))
  unfold ReadPost at h13
  rw [one_read, one_len] at h13
  have H13 := Lib.hid h13
  have HB2 := Lib.hid (HB0.out.trans (hb2.mono HB0.out.size))
  have HIN2 := Lib.hid (HIN.out.below hb2)
  clear h13 hC2 hb2
  go_upto_region 4 with (first | (go_at_call 13; refine H13.out.mono ?_; rintro e w3 ⟨A3, cap3, hf3, rfl, hc3, hR3, hb3⟩))
  have H15 := Lib.hid (refSame_calls (some ⟨w.heap.size, 0, none⟩) A3 1 cap3 [oneR] [oneR] w3 (by decide) (by decide) (HIN2.out.below hb3) hR3)
  have HB3 := Lib.hid (HB2.out.trans (hb3.mono HB2.out.size))
  clear hf3 hc3 hR3 hb3
  go_wp2_with (first | (go_at_call 15; refine H15.out.mono ?_; rintro e w4 ⟨he, nq, rfl⟩; rw [decide_eq_true rfl] at he; subst he))
  go_ret
  exact ⟨rfl, below_drewN HB3.out _⟩
end Go.Proofs.YtolaecdopfmbgaaDoor
