/- Digests and references as lists: how their cells lie, and when two are equal. No condition. -/
import Derived.Deep.MidRow
import Derived.ChangeKeysEq
import Derived.Laws.StructEq
import Derived.BigQuiet
import Derived.Deep.QuietTactic
import Derived.Deep.WholeRow
import Derived.Test.YtolaecdopfmbgaaDoorB
namespace Go.Proofs.YtolaecdopfmbgaaDoor
open Go.RowKit

theorem ret_int {k : IntKind} {a b : Int} (h : a = b) : Ending.returned (.int k a) = .returned (.int k b) := by rw [h]
theorem ret_bool {a b : Bool} (h : a = b) : Ending.returned (.bool a) = .returned (.bool b) := by rw [h]
theorem ret_str {a b : List UInt8} (h : a = b) : Ending.returned (.string ⟨a.toArray⟩) = .returned (.string ⟨b.toArray⟩) := by rw [h]

/-- the cells of a digest -/
def digV (d : List UInt8) : List Value := d.map fun c => .int .u8 c.toNat
theorem digV_length (d : List UInt8) : (digV d).length = d.length := by simp [digV]
theorem digV_at {d : List UInt8} {i : Nat} {c : UInt8} (h : d[i]? = some c) : (digV d)[i]? = some (.int .u8 c.toNat) := by simp [digV, h]
theorem digV_one (d : List UInt8) : (digV d).toArray.all (·.oneCell') = true := all_oneCell_toArray fun v hv => by
  simp only [digV, List.mem_map] at hv
  obtain ⟨c, _, rfl⟩ := hv
  rfl
/-- a reference: of a manifest or not, its digest, its size -/
structure Rf where
  m : Bool
  d : List UInt8
  n : Int
theorem Rf.ext' {a b : Rf} (h1 : a.m = b.m) (h2 : a.d = b.d) (h3 : a.n = b.n) : a = b := by cases a; cases b; simp_all
/-- its cells -/
def refV (r : Rf) : List Value := .bool r.m :: (digV r.d ++ [.int .i64 r.n])
def Rf.fits (r : Rf) : Prop := r.d.length = 32 ∧ -9223372036854775808 ≤ r.n ∧ r.n ≤ 9223372036854775807
theorem refV_length {r : Rf} (h : r.fits) : (refV r).length = 34 := by simp [refV, digV_length, h.1]
theorem refV_m (r : Rf) : (refV r)[0]? = some (.bool r.m) := rfl
theorem refV_n {r : Rf} (h : r.fits) : (refV r)[33]? = some (.int .i64 r.n) := by
  simp only [refV, List.getElem?_cons_succ]
  rw [List.getElem?_append_right (by simp [digV_length, h.1])]
  simp [digV_length, h.1]
theorem refV_d {r : Rf} {j : Nat} {v : Value} (h : (digV r.d)[j]? = some v) : (refV r)[1 + j]? = some v := by
  rw [Nat.add_comm]
  simp only [refV, List.getElem?_cons_succ]
  rw [List.getElem?_append_left (List.getElem?_eq_some_iff.1 h).1]; exact h
theorem refV_one (r : Rf) : (refV r).toArray.all (·.oneCell') = true := all_oneCell_toArray fun v hv => by
  simp only [refV, List.mem_cons, List.mem_append, List.mem_singleton] at hv
  rcases hv with rfl | hv | rfl | hv
  · rfl
  · simp only [digV, List.mem_map] at hv
    obtain ⟨c, _, rfl⟩ := hv
    rfl
  · rfl
  · cases hv

theorem range_m {w : World} {b o : Nat} {r : Rf} (h : w.rangeAt b o (refV r)) : w.cell? ⟨b, o, none⟩ = some (.bool r.m) := h 0 _ (refV_m r)
theorem range_n {w : World} {b o : Nat} {r : Rf} (h : w.rangeAt b o (refV r)) (hf : r.fits) : w.cell? ⟨b, o + 33, none⟩ = some (.int .i64 r.n) := h 33 _ (refV_n hf)
theorem range_d {w : World} {b o : Nat} {r : Rf} (h : w.rangeAt b o (refV r)) : w.rangeAt b (o + 1) (digV r.d) := fun j v hv => by
  have := h (1 + j) v (refV_d hv)
  rw [← Nat.add_assoc] at this; exact this
theorem rangeAt_below {w w' : World} {b o : Nat} {cs : List Value} (h : w.rangeAt b o cs) (hb : Below w.heap.size w w') : w'.rangeAt b o cs := fun j v hv =>
  (hb.cell (p := ⟨b, o + j, none⟩) (World.block_lt_of_cell? _ _ (h j v hv))).trans (h j v hv)
theorem rangeAt_new (w : World) (cs : List Value) (t : TypeId) : (w.alloc (.cells cs.toArray t)).rangeAt w.heap.size 0 cs := fun j v hv => by
  rw [Nat.zero_add, Lib.cell_of_heap (heap_alloc_new w _)]
  simpa using hv

theorem infoByte1 : ∃ i, Tryd.prog.info? 5 = some i := by
  have := infoByte
  cases h : Tryd.prog.info? 5 with
  | none => rw [h] at this; cases this
  | some i => exact ⟨i, rfl⟩
theorem cells5 : Tryd.prog.cellsOf 5 = 1 := by kernel_rfl
theorem plain5 : Tryd.prog.plainKey 5 = true := by kernel_rfl
theorem size39 : (Tryd.prog.info? 39).map (·.size) = some 32 := by kernel_rfl
theorem size41 : (Tryd.prog.info? 41).map (·.size) = some 34 := by kernel_rfl

theorem run_eqItems_bytes (w : World) (d : Nat) (a b : List UInt8) (hl : a.length = b.length) : ∀ (is : List Nat), (∀ i ∈ is, i < a.length) →
    (Op.eqItems (d + 1) 5 1 (digV a).toArray (digV b).toArray is).run Tryd.prog w = .ok (is.all fun i => a.getD i 0 == b.getD i 0) w
  | [], _ => by simp [Op.eqItems]
  | i :: is, hi => by
    have h1 := hi i (List.mem_cons_self ..)
    obtain ⟨x, hx⟩ : ∃ x, a[i]? = some x := ⟨_, List.getElem?_eq_getElem h1⟩
    obtain ⟨y, hy⟩ : ∃ y, b[i]? = some y := ⟨_, List.getElem?_eq_getElem (hl ▸ h1)⟩
    have e1 : (part 5 (digV a).toArray (i * 1)).run Tryd.prog w = .ok (.int .u8 x.toNat) w := run_part_plain w plain5 (by simpa using digV_at hx)
    have e2 : (part 5 (digV b).toArray (i * 1)).run Tryd.prog w = .ok (.int .u8 y.toNat) w := run_part_plain w plain5 (by simpa using digV_at hy)
    have e3 := run_equalIn_int w d 5 .u8 .u8 (x.toNat : Int) (y.toNat : Int) Tryd.underlying5
    have ih := run_eqItems_bytes w d a b hl is fun j hj => hi j (List.mem_cons_of_mem _ hj)
    simp only [Op.eqItems, Sem.run_bind, e1, e2, e3, Result.andThen_ok]
    have hxy : ((x.toNat : Int) == (y.toNat : Int)) = (x == y) := by
      rw [Bool.eq_iff_iff]
      simp only [beq_iff_eq]
      constructor
      · intro e; exact UInt8.toNat_inj.1 (by omega)
      · intro e; rw [e]
    rw [hxy, List.all_cons, List.getD_eq_getElem?_getD, List.getD_eq_getElem?_getD, hx, hy]
    cases hq : x == y
    · simp [hq]
    · simp only [Bool.not_true, Bool.false_eq_true, if_false, ih, Option.getD_some, hq, Bool.true_and]

theorem all_same {a b : List UInt8} (hl : a.length = b.length) : ((List.range a.length).all fun i => a.getD i 0 == b.getD i 0) = (a == b) := by
  rw [Bool.eq_iff_iff]
  simp only [List.all_eq_true, List.mem_range, beq_iff_eq]
  constructor
  · intro h
    refine List.ext_getElem? fun i => ?_
    rcases Nat.lt_or_ge i a.length with hi | hi
    · have := h i hi
      rw [List.getD_eq_getElem?_getD, List.getD_eq_getElem?_getD, List.getElem?_eq_getElem hi, List.getElem?_eq_getElem (hl ▸ hi)] at this
      rw [List.getElem?_eq_getElem hi, List.getElem?_eq_getElem (hl ▸ hi)]
      simpa using this
    · rw [List.getElem?_eq_none hi, List.getElem?_eq_none (by omega)]
  · rintro rfl _ _; rfl

theorem run_equalIn_dig (w : World) (d : Nat) (a b : List UInt8) (ha : a.length = 32) (hb : b.length = 32) :
    (Op.equalIn (d + 2) 39 (.agg (digV a).toArray) (.agg (digV b).toArray)).run Tryd.prog w = .ok (a == b) w := by
  obtain ⟨i, hi⟩ := infoByte1
  rw [run_equalIn_array w (d + 1) _ _ Tryd.underlying39 hi, cells5]
  have h := run_eqItems_bytes w d a b (ha.trans hb.symm) (List.range 32) (fun i hi => by rw [ha]; exact List.mem_range.1 hi)
  rw [h]
  have h2 := all_same (ha.trans hb.symm)
  rw [ha] at h2
  rw [h2]
theorem run_eql_dig (w : World) (a b : List UInt8) (ha : a.length = 32) (hb : b.length = 32) :
    (binOp .eql 39 (.agg (digV a).toArray) (.agg (digV b).toArray)).run Tryd.prog w = .ok (.bool (a == b)) w := by
  rw [run_eql_struct, run_equalIn_dig w 9998 a b ha hb]; rfl
theorem run_neq_dig (w : World) (a b : List UInt8) (ha : a.length = 32) (hb : b.length = 32) :
    (binOp .neq 39 (.agg (digV a).toArray) (.agg (digV b).toArray)).run Tryd.prog w = .ok (.bool (!(a == b))) w := by
  rw [run_neq_struct, run_equalIn_dig w 9998 a b ha hb]; rfl

theorem equalIn_dig (w : World) (a b : List UInt8) (ha : a.length = 32) (hb : b.length = 32) :
    (Op.equalIn 10000 39 (.agg (digV a).toArray) (.agg (digV b).toArray)).run Tryd.prog w = .ok (a == b) w := run_equalIn_dig w 9998 a b ha hb
theorem eqGuard39 : Tryd.prog.eqGuardType Tryd.prog.depth 39 = false := by kernel_rfl
theorem eqGuard41 : Tryd.prog.eqGuardType Tryd.prog.depth 41 = false := by kernel_rfl

/-- a load of many cells, in a region that draws its order -/
theorem wpQuiet_load_mid {P : Program} {ops : Array Oper} {C : World → Prop} {Q : Act → Prop} {a : Act} {rest : List Oper} {d x : Tmp} {ty t2 : TypeId} {pos : String} {after : Array Edge}
    (b o : Nat) (cs : List Value) (de : TypeDesc) (hx : a.tmps.getD x undef = .pointer (some ⟨b, o, none⟩)) (hu : P.underlying ty = some de) (hd : de.isRow = true)
    (hi : (P.info? ty).map (·.size) = some cs.length) (hc : ∀ w, C w → w.rangeAt b o cs)
    (h : wpQuiet P ops C Q rest (a.put (some d) (.agg cs.toArray))) :
    wpQuiet P ops C Q ({ dst := some d, op := .load ty (.tmp x), type := t2, pos := pos, after := after, guard := none } :: rest) a := by
  refine wpQuiet_step fun K hK => ?_
  rw [if_pos (show Region.wanted { dst := some d, op := Op.load ty (Operand.tmp x), type := t2, pos := pos, after := after, guard := none } (yielded ops a.tmps) = true from rfl)]
  refine ⟨_, fun w hw => ?_, hK _ h⟩
  have hx' : a.eval (.tmp x) = .pointer (some ⟨b, o, none⟩) := hx
  unfold Oper.quietAt execOp
  simp only [hx', Instr.loadAt, Instr.sureAddr, Sem.run_bind, Sem.run_pure, Result.andThen_ok, run_loadVar_mid w b o ty cs de (hc w hw) hu hd hi]
  exact ⟨rfl, rfl⟩

/-- references in a row -/
def RefsIn (w : World) (A : Option Addr) (L : List Rf) : Prop :=
  ∀ k r, L[k]? = some r → r.fits ∧ ∃ b o, A = some ⟨b, o, none⟩ ∧ w.rangeAt b (o + k * 34) (refV r)
theorem RefsIn.below {w w' : World} {A : Option Addr} {L : List Rf} (h : RefsIn w A L) (hb : Below w.heap.size w w') : RefsIn w' A L := fun k r hk => by
  obtain ⟨hf, b, o, rfl, hr⟩ := h k r hk
  exact ⟨hf, b, o, rfl, rangeAt_below hr hb⟩
end Go.Proofs.YtolaecdopfmbgaaDoor
