/- Digests as lists: how their cells lie, and when two are equal. No condition. -/
import Derived.Deep.MidRow
import Derived.ChangeKeysEq
import Derived.Laws.StructEq
import Derived.BigQuiet
import Derived.Deep.QuietTactic
import Derived.Deep.WholeRow
import Derived.Test.YtjplfkcelkijfaaGreatDoorHxB
namespace Go.Proofs.YtjplfkcelkijfaaGreatDoor
open Go.RowKit
theorem ret_int {k : IntKind} {a b : Int} (h : a = b) : Ending.returned (.int k a) = .returned (.int k b) := by rw [h]
theorem ret_bool {a b : Bool} (h : a = b) : Ending.returned (.bool a) = .returned (.bool b) := by rw [h]
theorem ret_str {a b : List UInt8} (h : a = b) : Ending.returned (.string ⟨a.toArray⟩) = .returned (.string ⟨b.toArray⟩) := by rw [h]
/-- the cells of a digest -/
def digV (d : List UInt8) : List Value := d.map fun c => .int .u8 c.toNat
theorem digV_length (d : List UInt8) : (digV d).length = d.length := by simp [digV]
theorem digV_at {d : List UInt8} {i : Nat} {c : UInt8} (h : d[i]? = some c) : (digV d)[i]? = some (.int .u8 c.toNat) := by simp [digV, h]
theorem digV_one (d : List UInt8) : (digV d).toArray.all (·.oneCell') = true := all_oneCell_toArray fun v hv => by
  simp only [digV, List.mem_map] at hv
  obtain ⟨c, _, rfl⟩ := hv
  rfl
theorem rangeAt_below {w w' : World} {b o : Nat} {cs : List Value} (h : w.rangeAt b o cs) (hb : Below w.heap.size w w') : w'.rangeAt b o cs := fun j v hv =>
  (hb.cell (p := ⟨b, o + j, none⟩) (World.block_lt_of_cell? _ _ (h j v hv))).trans (h j v hv)
theorem rangeAt_new (w : World) (cs : List Value) (t : TypeId) : (w.alloc (.cells cs.toArray t)).rangeAt w.heap.size 0 cs := fun j v hv => by
  rw [Nat.zero_add, Lib.cell_of_heap (heap_alloc_new w _)]
  simpa using hv
theorem infoByte1 : ∃ i, Tryz.prog.info? 5 = some i := by
  have := infoByte
  cases h : Tryz.prog.info? 5 with
  | none => rw [h] at this; cases this
  | some i => exact ⟨i, rfl⟩
theorem cells5 : Tryz.prog.cellsOf 5 = 1 := by kernel_rfl
theorem plain5 : Tryz.prog.plainKey 5 = true := by kernel_rfl
theorem size23 : (Tryz.prog.info? 23).map (·.size) = some 32 := by kernel_rfl
theorem run_eqItems_bytes (w : World) (d : Nat) (a b : List UInt8) (hl : a.length = b.length) : ∀ (is : List Nat), (∀ i ∈ is, i < a.length) →
    (Op.eqItems (d + 1) 5 1 (digV a).toArray (digV b).toArray is).run Tryz.prog w = .ok (is.all fun i => a.getD i 0 == b.getD i 0) w
  | [], _ => by simp [Op.eqItems]
  | i :: is, hi => by
    have h1 := hi i (List.mem_cons_self ..)
    obtain ⟨x, hx⟩ : ∃ x, a[i]? = some x := ⟨_, List.getElem?_eq_getElem h1⟩
    obtain ⟨y, hy⟩ : ∃ y, b[i]? = some y := ⟨_, List.getElem?_eq_getElem (hl ▸ h1)⟩
    have e1 : (part 5 (digV a).toArray (i * 1)).run Tryz.prog w = .ok (.int .u8 x.toNat) w := run_part_plain w plain5 (by simpa using digV_at hx)
    have e2 : (part 5 (digV b).toArray (i * 1)).run Tryz.prog w = .ok (.int .u8 y.toNat) w := run_part_plain w plain5 (by simpa using digV_at hy)
    have e3 := run_equalIn_int w d 5 .u8 .u8 (x.toNat : Int) (y.toNat : Int) Tryz.underlying5
    have ih := run_eqItems_bytes w d a b hl is fun j hj => hi j (List.mem_cons_of_mem _ hj)
    simp only [Op.eqItems, Sem.run_bind, e1, e2, e3, Result.andThen_ok]
    have hxy : ((x.toNat : Int) == (y.toNat : Int)) = (x == y) := by
      rw [Bool.eq_iff_iff]
      simp only [beq_iff_eq]
      constructor
      · intro e; exact UInt8.toNat_inj.1 (by omega)
      · intro e; rw [e]
    rw [hxy, List.all_cons, List.getD_eq_getElem?_getD, List.getD_eq_getElem?_getD, hx, hy]
    cases hq : x == y
    · simp [hq]
    · simp only [Bool.not_true, Bool.false_eq_true, if_false, ih, Option.getD_some, hq, Bool.true_and]
theorem all_same {a b : List UInt8} (hl : a.length = b.length) : ((List.range a.length).all fun i => a.getD i 0 == b.getD i 0) = (a == b) := by
  rw [Bool.eq_iff_iff]
  simp only [List.all_eq_true, List.mem_range, beq_iff_eq]
  constructor
  · intro h
    refine List.ext_getElem? fun i => ?_
    rcases Nat.lt_or_ge i a.length with hi | hi
    · have := h i hi
      rw [List.getD_eq_getElem?_getD, List.getD_eq_getElem?_getD, List.getElem?_eq_getElem hi, List.getElem?_eq_getElem (hl ▸ hi)] at this
      rw [List.getElem?_eq_getElem hi, List.getElem?_eq_getElem (hl ▸ hi)]
      simpa using this
    · rw [List.getElem?_eq_none hi, List.getElem?_eq_none (by omega)]
  · rintro rfl _ _; rfl
theorem run_equalIn_dig (w : World) (d : Nat) (a b : List UInt8) (ha : a.length = 32) (hb : b.length = 32) :
    (Op.equalIn (d + 2) 23 (.agg (digV a).toArray) (.agg (digV b).toArray)).run Tryz.prog w = .ok (a == b) w := by
  obtain ⟨i, hi⟩ := infoByte1
  rw [run_equalIn_array w (d + 1) _ _ Tryz.underlying23 hi, cells5]
  have h := run_eqItems_bytes w d a b (ha.trans hb.symm) (List.range 32) (fun i hi => by rw [ha]; exact List.mem_range.1 hi)
  rw [h]
  have h2 := all_same (ha.trans hb.symm)
  rw [ha] at h2
  rw [h2]
theorem run_eql_dig (w : World) (a b : List UInt8) (ha : a.length = 32) (hb : b.length = 32) :
    (binOp .eql 23 (.agg (digV a).toArray) (.agg (digV b).toArray)).run Tryz.prog w = .ok (.bool (a == b)) w := by
  rw [run_eql_struct, run_equalIn_dig w 9998 a b ha hb]; rfl
theorem run_neq_dig (w : World) (a b : List UInt8) (ha : a.length = 32) (hb : b.length = 32) :
    (binOp .neq 23 (.agg (digV a).toArray) (.agg (digV b).toArray)).run Tryz.prog w = .ok (.bool (!(a == b))) w := by
  rw [run_neq_struct, run_equalIn_dig w 9998 a b ha hb]; rfl
theorem equalIn_dig (w : World) (a b : List UInt8) (ha : a.length = 32) (hb : b.length = 32) :
    (Op.equalIn 10000 23 (.agg (digV a).toArray) (.agg (digV b).toArray)).run Tryz.prog w = .ok (a == b) w := run_equalIn_dig w 9998 a b ha hb
theorem eqGuard39 : Tryz.prog.eqGuardType Tryz.prog.depth 23 = false := by kernel_rfl
/-- a load of many cells, in a region that draws its order -/
theorem wpQuiet_load_mid {P : Program} {ops : Array Oper} {C : World → Prop} {Q : Act → Prop} {a : Act} {rest : List Oper} {d x : Tmp} {ty t2 : TypeId} {pos : String} {after : Array Edge}
    (b o : Nat) (cs : List Value) (de : TypeDesc) (hx : a.tmps.getD x undef = .pointer (some ⟨b, o, none⟩)) (hu : P.underlying ty = some de) (hd : de.isRow = true)
    (hi : (P.info? ty).map (·.size) = some cs.length) (hc : ∀ w, C w → w.rangeAt b o cs)
    (h : wpQuiet P ops C Q rest (a.put (some d) (.agg cs.toArray))) :
    wpQuiet P ops C Q ({ dst := some d, op := .load ty (.tmp x), type := t2, pos := pos, after := after, guard := none } :: rest) a := by
  refine wpQuiet_step fun K hK => ?_
  rw [if_pos (show Region.wanted { dst := some d, op := Op.load ty (Operand.tmp x), type := t2, pos := pos, after := after, guard := none } (yielded ops a.tmps) = true from rfl)]
  refine ⟨_, fun w hw => ?_, hK _ h⟩
  have hx' : a.eval (.tmp x) = .pointer (some ⟨b, o, none⟩) := hx
  unfold Oper.quietAt execOp
  simp only [hx', Instr.loadAt, Instr.sureAddr, Sem.run_bind, Sem.run_pure, Result.andThen_ok, run_loadVar_mid w b o ty cs de (hc w hw) hu hd hi]
  exact ⟨rfl, rfl⟩
end Go.Proofs.YtjplfkcelkijfaaGreatDoor
