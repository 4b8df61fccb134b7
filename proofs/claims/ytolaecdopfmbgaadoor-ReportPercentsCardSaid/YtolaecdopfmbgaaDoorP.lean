/- A reference is built out of its parts. No condition. -/
import Derived.Test.YtolaecdopfmbgaaDoorO
namespace Go.Proofs.YtolaecdopfmbgaaDoor
open Go.RowKit

theorem foldl_set (off : Nat) : ∀ (l : List Value) (k : Nat) (pre mid post : List Value), mid.length = l.length → pre.length = off + k →
    (l.zipIdx k).foldl (fun (cs : Array Value) (p : Value × Nat) => cs.setIfInBounds (off + p.2) p.1) (pre ++ mid ++ post).toArray = (pre ++ l ++ post).toArray
  | [], k, pre, mid, post, hm, _ => by
    have : mid = [] := List.eq_nil_of_length_eq_zero hm
    subst this; rfl
  | c :: l, k, pre, mid, post, hm, hp => by
    match mid, hm with
    | m :: mid, hm =>
      rw [List.zipIdx_cons, List.foldl_cons]
      have e : (pre ++ m :: mid ++ post).toArray.setIfInBounds (off + k) c = ((pre ++ [c]) ++ mid ++ post).toArray := by
        apply Array.ext'
        simp only [Array.toList_setIfInBounds, List.append_assoc, List.cons_append, List.nil_append]
        rw [List.set_append_right _ _ (by omega), show off + k - pre.length = 0 by omega, List.set_cons_zero]
      simp only
      rw [e, foldl_set off l (k + 1) (pre ++ [c]) mid post (by simpa using hm) (by simp; omega)]
      simp
theorem foldl_cells (off : Nat) (l pre mid post : List Value) (hm : mid.length = l.length) (hp : pre.length = off) :
    (l.toArray.zipIdx.foldl (fun (cs : Array Value) (p : Value × Nat) => cs.setIfInBounds (off + p.2) p.1) (pre ++ mid ++ post).toArray) = (pre ++ l ++ post).toArray := by
  rw [← Array.foldl_toList, Array.toList_zipIdx]
  exact foldl_set off l 0 pre mid post hm (by omega)
theorem fill_step (place : Nat → Option (Nat × Nat)) (i off size : Nat) (l pre mid post : List Value) (v : Value) (rest : List (Nat × Value)) (hpl : place i = some (off, size)) (hv : v.cells = l.toArray) (hs : l.length = size)
    (hm : mid.length = l.length) (hp : pre.length = off) : Instr.fill place (pre ++ mid ++ post).toArray ((i, v) :: rest) = Instr.fill place (pre ++ l ++ post).toArray rest := by
  rw [Instr.fill]
  simp only [hpl, hv]
  rw [if_neg]
  · rw [foldl_cells off l pre mid post hm hp]
  · simp; omega

theorem szOf {t : TypeId} {n : Nat} (h : (Tryd.prog.info? t).map (·.size) = some n) (w : World) : (Go.sizeOf t).run Tryd.prog w = .ok n w := by
  obtain ⟨i, hi, hs⟩ := Option.map_eq_some_iff.1 h
  simp [Go.sizeOf, typeInfo, hi, hs]
theorem size4 : (Tryd.prog.info? 4).map (·.size) = some 1 := by kernel_rfl
theorem size3 : (Tryd.prog.info? 3).map (·.size) = some 1 := by kernel_rfl
theorem build_run (w : World) (parts : Array (Nat × Value)) (r : Rf) (h : Instr.fill (fun x => (#[(0, 1), (1, 32), (33, 1)] : Array (Nat × Nat))[x]?) (refV zeroR).toArray parts.toList = some (refV r).toArray) :
    (Instr.build 41 parts).run Tryd.prog w = .ok (.agg (refV r).toArray) w := by
  obtain ⟨z, hz⟩ : ∃ z, z = (refV zeroR).toArray := ⟨_, rfl⟩
  obtain ⟨y, hy⟩ : ∃ y, y = (refV r).toArray := ⟨_, rfl⟩
  have h0 := zero41 w
  rw [← hz] at h0 h
  rw [← hy] at h ⊢
  unfold Instr.build
  simp only [Sem.run_bind, h0, Result.andThen_ok, run_underlying Tryd.underlying41]
  simp only [List.getElem?_toArray] at h
  simp [szOf size4, szOf size39, szOf size3, Sem.run_bind, Value.cells, h]
theorem zeroRef : (refV zeroR).toArray = ([] ++ [Value.bool false] ++ (digV zeroD ++ [Value.int .i64 0])).toArray := rfl
theorem build_ref1 (w : World) (m : Bool) (d : List UInt8) (hd : d.length = 32) : (Instr.build 41 #[(0, .bool m), (1, .agg (digV d).toArray)]).run Tryd.prog w = .ok (.agg (refV ⟨m, d, 0⟩).toArray) w := by
  refine build_run w _ _ ?_
  show Instr.fill _ _ [(0, .bool m), (1, .agg (digV d).toArray)] = _
  rw [zeroRef, fill_step _ 0 0 1 [.bool m] [] [.bool false] _ (.bool m) _ rfl rfl rfl rfl rfl]
  have e : ([] ++ [Value.bool m] ++ (digV zeroD ++ [Value.int .i64 0])) = [Value.bool m] ++ digV zeroD ++ [Value.int .i64 0] := by simp
  rw [e, fill_step _ 1 1 32 (digV d) [.bool m] (digV zeroD) _ _ _ rfl rfl (by rw [digV_length, hd]) (by rw [digV_length, digV_length, hd, zeroD_length]) rfl, Instr.fill]
  simp [refV]
theorem build_ref2 (w : World) (n : Int) (d : List UInt8) (hd : d.length = 32) : (Instr.build 41 #[(1, .agg (digV d).toArray), (2, .int .i64 n)]).run Tryd.prog w = .ok (.agg (refV ⟨false, d, n⟩).toArray) w := by
  refine build_run w _ _ ?_
  show Instr.fill _ _ [(1, .agg (digV d).toArray), (2, .int .i64 n)] = _
  have e0 : ([] ++ [Value.bool false] ++ (digV zeroD ++ [Value.int .i64 0])) = [Value.bool false] ++ digV zeroD ++ [Value.int .i64 0] := by simp
  rw [zeroRef, e0, fill_step _ 1 1 32 (digV d) [.bool false] (digV zeroD) _ _ _ rfl rfl (by rw [digV_length, hd]) (by rw [digV_length, digV_length, hd, zeroD_length]) rfl]
  have e : ([Value.bool false] ++ digV d ++ [Value.int .i64 0]) = ([Value.bool false] ++ digV d) ++ [Value.int .i64 0] ++ [] := by simp
  rw [e, fill_step _ 2 33 1 [Value.int .i64 n] ([Value.bool false] ++ digV d) [Value.int .i64 0] [] _ _ rfl rfl rfl rfl (by simp [digV_length, hd]), Instr.fill]
  simp [refV]
theorem wpList_build_ref1 {ops : Array Oper} {rest : List Oper} {a : Act} {w : World} {Q : Exit → Act → World → Prop} {d : Option Tmp} {x : Tmp} {m : Bool} {ty : TypeId} {pos : String} {after : Array Edge}
    (l : List UInt8) (hl : l.length = 32) (hx : a.tmps.getD x undef = .agg (digV l).toArray)
    (h : wpList Tryd.prog ops Q rest (a.put d (.agg (refV ⟨m, l, 0⟩).toArray)) w) :
    wpList Tryd.prog ops Q ({ dst := d, op := .build 41 #[(0, .const (.bool m)), (1, .tmp x)], type := ty, pos := pos, after := after, guard := none } :: rest) a w := by
  refine wpList_plain rfl fun K hK => ?_
  have e : (Array.map (fun p : Nat × Operand => (p.1, a.eval p.2)) #[(0, .const (.bool m)), (1, .tmp x)]) = #[(0, .bool m), (1, .agg (digV l).toArray)] := by
    simp only [List.map_toArray, List.map_cons, List.map_nil]
    rw [show a.eval (.tmp x) = .agg (digV l).toArray from hx]; rfl
  simp only [Oper.wp, execOp, e, Sem.run_bind, build_ref1 w m l hl, Result.andThen_ok, Sem.run_pure]
  exact hK _ _ h
theorem wpList_build_ref2 {ops : Array Oper} {rest : List Oper} {a : Act} {w : World} {Q : Exit → Act → World → Prop} {d : Option Tmp} {x y : Tmp} {ty : TypeId} {pos : String} {after : Array Edge}
    (l : List UInt8) (n : Int) (hl : l.length = 32) (hx : a.tmps.getD x undef = .agg (digV l).toArray) (hy : a.tmps.getD y undef = .int .i64 n)
    (h : wpList Tryd.prog ops Q rest (a.put d (.agg (refV ⟨false, l, n⟩).toArray)) w) :
    wpList Tryd.prog ops Q ({ dst := d, op := .build 41 #[(1, .tmp x), (2, .tmp y)], type := ty, pos := pos, after := after, guard := none } :: rest) a w := by
  refine wpList_plain rfl fun K hK => ?_
  have e : (Array.map (fun p : Nat × Operand => (p.1, a.eval p.2)) #[(1, .tmp x), (2, .tmp y)]) = #[(1, .agg (digV l).toArray), (2, .int .i64 n)] := by
    simp only [List.map_toArray, List.map_cons, List.map_nil]
    rw [show a.eval (.tmp x) = .agg (digV l).toArray from hx, show a.eval (.tmp y) = .int .i64 n from hy]
  simp only [Oper.wp, execOp, e, Sem.run_bind, build_ref2 w n l hl, Result.andThen_ok, Sem.run_pure]
  exact hK _ _ h
end Go.Proofs.YtolaecdopfmbgaaDoor
