/- The reference's Same of operations, at two that are the same. Condition: data of at most 8388608 bytes. -/
import Derived.Test.YtjplfkcelkijfaaGreatDoorWn
namespace Go.Proofs.YtjplfkcelkijfaaGreatDoor
open Go.RowKit
attribute [local go_sem] equalIn_dig eqGuard39

theorem wpList_valG {ops : Array Oper} {rest : List Oper} {o : Oper} {a : Act} {w : World} {Q : Exit → Act → World → Prop} (hw : Region.wanted o (yielded ops a.tmps) = true) (v : Value) (hr : (execOp a.eval o).run Tryz.prog w = .ok (.value v) w)
    (h : wpList Tryz.prog ops Q rest (a.put o.dst v) w) : wpList Tryz.prog ops Q (o :: rest) a w :=
  wpList_step fun K hK => by rw [if_pos hw]; unfold Oper.wp; rw [hr]; exact hK _ _ h
theorem wpList_load_digG {ops : Array Oper} {rest : List Oper} {a : Act} {w : World} {Q : Exit → Act → World → Prop} {d x : Tmp} {ty : TypeId} {pos : String} {after : Array Edge} {gd : Option (Nat × Bool)}
    (b o : Nat) (l : List UInt8) (hx : a.tmps.getD x undef = .pointer (some ⟨b, o, none⟩)) (hc : w.rangeAt b o (digV l)) (hf : l.length = 32)
    (hw : Region.wanted { dst := some d, op := .load 23 (.tmp x), type := ty, pos := pos, after := after, guard := gd } (yielded ops a.tmps) = true)
    (h : wpList Tryz.prog ops Q rest (a.put (some d) (.agg (digV l).toArray)) w) :
    wpList Tryz.prog ops Q ({ dst := some d, op := .load 23 (.tmp x), type := ty, pos := pos, after := after, guard := gd } :: rest) a w := by
  refine wpList_valG hw (.agg (digV l).toArray) ?_ h
  have hx' : a.eval (.tmp x) = .pointer (some ⟨b, o, none⟩) := hx
  simp only [execOp, hx', Instr.loadAt, Instr.sureAddr, Sem.run_bind, Sem.run_pure, Result.andThen_ok, run_loadVar_mid w b o 23 (digV l) _ hc Tryz.underlying23 rfl (by rw [size23, digV_length, hf])]
set_option maxHeartbeats 2000000 in
set_option maxRecDepth 100000 in
theorem same_calls (x : OpV) (A B : Option Addr) (c1 c2 : Nat) (w : World) (hd : x.d.length = 32) (hA : CellsIn w A (Lib.byteCells x.b)) (hB : CellsIn w B (Lib.byteCells x.b)) (hl : x.b.length ≤ 8388608) :
    Calls Tryz.prog 9 #[.agg (opV x (.slice A x.b.length c1)).toArray, .agg (opV x (.slice B x.b.length c2)).toArray] w fun e w' => e = .returned (.bool true) ∧ Below w.heap.size w w' := by
  have hb1 : Below w.heap.size w (w.alloc (.cells (opV x (.slice A x.b.length c1)).toArray 26)) := (Below.refl _ _).alloc (Nat.le_refl _) _
  have hO1 := opAt_new w x (.slice A x.b.length c1) hd
  have hA1 := hA.below hb1
  have hB1 := hB.below hb1
  have hn1 : (w.alloc (.cells (opV x (.slice A x.b.length c1)).toArray 26)).heap.size = w.heap.size + 1 := by simp
  generalize hw1 : w.alloc (.cells (opV x (.slice A x.b.length c1)).toArray 26) = w1 at *
  have hb2 : Below w1.heap.size w1 (w1.alloc (.cells (opV x (.slice B x.b.length c2)).toArray 26)) := (Below.refl _ _).alloc (Nat.le_refl _) _
  have hO2 := opAt_new w1 x (.slice B x.b.length c2) hd
  have hO1 := hO1.below hb2
  have hA2 := hA1.below hb2
  have hB2 := hB1.below hb2
  have hb := hb1.trans (hb2.mono hb1.size)
  generalize hw2 : w1.alloc (.cells (opV x (.slice B x.b.length c2)).toArray 26) = w2 at *
  have e1 := run_text w2 A c1 x.b hA2
  have e2 := run_text w2 B c2 x.b hB2
  obtain ⟨k1, i1, o1, n1, t1, d1, a1, _⟩ := hO1
  obtain ⟨k2, i2, o2, n2, t2, d2, a2, _⟩ := hO2
  rw [hn1] at k2 i2 o2 n2 t2 d2 a2
  have D1 := Lib.hid d1
  have D2 := Lib.hid d2
  have HB := Lib.hid hb
  have HW1 := Lib.hid hw1
  have HW2 := Lib.hid hw2
  clear hb1 hb2 hA1 hB1 hA2 hB2 hA hB d1 d2 hb hl hw1 hw2
  go_enter Tryz.func9, Tryz.ntmps9
  go_upto_region 1 with (fail)
  rw [HW1.out, HW2.out]
  go_wp2_with (first | ((with_reducible apply wpList_load_digG w.heap.size 5 x.d); rfl; exact D1.out; exact hd; rfl) | ((with_reducible apply wpList_load_digG (w.heap.size + 1) 5 x.d); rfl; exact D2.out; exact hd; rfl))
  go_ret
  exact ⟨rfl, HB.out⟩
end Go.Proofs.YtjplfkcelkijfaaGreatDoor
