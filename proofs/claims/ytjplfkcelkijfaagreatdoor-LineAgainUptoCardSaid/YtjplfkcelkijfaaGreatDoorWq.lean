/- Regions that draw their order, with loads and calls that make memory and answer plain values: one walk of the lexical order. No condition. -/
import Derived.Deep.Quiet
import Derived.Deep.QuietTactic
import Derived.BigQuiet
import Derived.Test.YtjplfkcelkijfaaGreatDoorWp
namespace Go.Proofs.YtjplfkcelkijfaaGreatDoor
open Go.RowKit

section
variable {ops : Array Oper} {C : World → Prop} {Q : Act → Prop} {a : Act} {rest : List Oper} {o : Oper}
/-- the class of worlds: whatever has been made since -/
theorem wp_region_below {id : Nat} {Q : Exit → Act → World → Prop} {a : Act} {w : World} {l : List Oper} (hB : Region.lexB .any l.toArray = true)
    (h : wpQuiet Tryz.prog l.toArray (Below w.heap.size w) (fun a' => ∀ w', Below w.heap.size w w' → Q .normal a' w') l a) : (Code.region id l.toArray true).wp Tryz.prog Q a w :=
  wp_region_quiet (C := Below w.heap.size w) (by kernel_rfl) hB ((Below.refl w.heap.size w).drew) (by simpa using h)
theorem qv (v : Value) (hw : Region.wanted o (yielded ops a.tmps) = true) (hr : ∀ w, (execOp a.eval o).run Tryz.prog w = .ok (.value v) w) (h : wpQuiet Tryz.prog ops C Q rest (a.put o.dst v)) : wpQuiet Tryz.prog ops C Q (o :: rest) a := by
  refine wpQuiet_step fun K hK => ?_
  rw [if_pos hw]
  refine ⟨_, fun w _ => ?_, hK _ h⟩
  unfold Oper.quietAt
  rw [hr w]
  exact ⟨rfl, rfl⟩
/-- .. that reads -/
theorem qr (v : Value) (hw : Region.wanted o (yielded ops a.tmps) = true) (hr : ∀ w, C w → (execOp a.eval o).run Tryz.prog w = .ok (.value v) w) (h : wpQuiet Tryz.prog ops C Q rest (a.put o.dst v)) : wpQuiet Tryz.prog ops C Q (o :: rest) a := by
  refine wpQuiet_step fun K hK => ?_
  rw [if_pos hw]
  refine ⟨_, fun w hC => ?_, hK _ h⟩
  unfold Oper.quietAt
  rw [hr w hC]
  exact ⟨rfl, rfl⟩
theorem qn (hw : Region.wanted o (yielded ops a.tmps) = false) (h : wpQuiet Tryz.prog ops C Q rest (a.put o.dst undef)) : wpQuiet Tryz.prog ops C Q (o :: rest) a := by
  refine wpQuiet_step fun K hK => ?_
  rw [if_neg (by rw [hw]; simp)]
  exact hK _ h
theorem ql (ty : TypeId) (x : Operand) (ho : o.op = .load ty x) (b of : Nat) (cs : List Value) (hx : a.eval x = .pointer (some ⟨b, of, none⟩)) (hl : ∀ w, C w → (loadVar ty ⟨b, of, none⟩).run Tryz.prog w = .ok (.agg cs.toArray) w)
    (hw : Region.wanted o (yielded ops a.tmps) = true) (h : wpQuiet Tryz.prog ops C Q rest (a.put o.dst (.agg cs.toArray))) : wpQuiet Tryz.prog ops C Q (o :: rest) a := by
  refine qr _ hw (fun w hC => ?_) h
  unfold execOp
  simp only [ho, hx, Instr.loadAt, Instr.sureAddr, Sem.run_bind, Sem.run_pure, Result.andThen_ok, hl w hC]
theorem qc (v : Value) (f : FuncId) (args : Array Value) (hw : Region.wanted o (yielded ops a.tmps) = true) (he : ∀ w, (execOp a.eval o).run Tryz.prog w = .ok (.enter f args) w) (hc : ∀ w, C w → Calls Tryz.prog f args w fun e w'' => e = .returned v ∧ C w'')
    (h : wpQuiet Tryz.prog ops C Q rest (a.put o.dst v)) : wpQuiet Tryz.prog ops C Q (o :: rest) a := by
  refine wpQuiet_step fun K hK => ?_
  rw [if_pos hw]
  refine ⟨_, fun w hC => ?_, hK _ h⟩
  unfold Oper.quietAt
  rw [he w]
  exact ⟨rfl, hc w hC⟩
end
theorem grown_call {w0 w : World} {f : FuncId} {args : Array Value} {v : Value} (hC : Below w0.heap.size w0 w) (h : Calls Tryz.prog f args w fun e w' => e = .returned v ∧ Below w.heap.size w w') :
    Calls Tryz.prog f args w fun e w'' => e = .returned v ∧ Below w0.heap.size w0 w'' := h.mono fun _ _ ⟨e, hb⟩ => ⟨e, hC.trans (hb.mono hC.size)⟩
end Go.Proofs.YtjplfkcelkijfaaGreatDoor
