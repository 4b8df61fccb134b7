/- line.Read: which operation a line is. Condition: a line of at most 8388608 bytes; what lies in variables. -/
import Derived.Deep.CutRange
import Derived.Deep.RegionLaw
import Derived.Test.YtjplfkcelkijfaaGreatDoorWm
namespace Go.Proofs.YtjplfkcelkijfaaGreatDoor
open Go.RowKit

/-- what lies in variables: the table of powers, two errors, the length of short strings -/
structure LEnv (w : World) : Prop where
  env : Env w
  max : ∃ m, w.cell? ⟨0, 0, none⟩ = some (.int .i64 m)
theorem LEnv.below {w w' : World} (h : LEnv w) (hb : Below w.heap.size w w') : LEnv w' := by
  obtain ⟨h1, m, h2⟩ := h
  exact ⟨h1.below hb, m, (hb.cell (p := ⟨0, 0, none⟩) (World.block_lt_of_cell? _ _ h2)).trans h2⟩
/-- an operation as a value -/
def OpVal (w : World) (v : Value) (x : OpV) : Prop := ∃ A cap, v = .agg (opV x (.slice A x.b.length cap)).toArray ∧ CellsIn w A (Lib.byteCells x.b)

theorem u26 : ∃ fs, Tryz.prog.underlying 26 = some (.struct fs) := by
  have h : (match Tryz.prog.underlying 26 with | some (.struct _) => true | _ => false) = true := by kernel_rfl
  cases e : Tryz.prog.underlying 26 with
  | none => rw [e] at h; cases h
  | some u =>
    rw [e] at h
    cases u with
    | struct fs => exact ⟨fs, rfl⟩
    | _ => cases h
theorem under39 : ∃ f0 f1 : Field, Tryz.prog.underlying 49 = some (.struct #[f0, f1]) ∧ f1.type = 47 ∧ f1.offset = 1 := by
  have h : (match Tryz.prog.underlying 49 with | some (.struct fs) => fs.toList.map (fun f => (f.type, f.offset)) | _ => []) = [(9, 0), (47, 1)] := by kernel_rfl
  cases e : Tryz.prog.underlying 49 with
  | none => rw [e] at h; cases h
  | some u =>
    rw [e] at h
    cases u with
    | struct fs =>
      simp only at h
      obtain ⟨fl⟩ := fs
      rcases fl with _ | ⟨f0, _ | ⟨f1, _ | ⟨f2, fl⟩⟩⟩
      · simp at h
      · simp at h
      · simp only [List.map_cons, List.map_nil, List.cons.injEq, Prod.mk.injEq, and_true] at h
        exact ⟨f0, f1, rfl, h.2⟩
      · simp at h
    | _ => simp at h
theorem field_parts (a : Value) (A : Option Addr) (n c : Nat) (W : World) : (Instr.field 49 (.agg #[a, .slice A n c]) 1).run Tryz.prog W = .ok (.slice A n c) W := by
  obtain ⟨f0, f1, hu, ht, ho⟩ := under39
  simp [Instr.field, run_underlying hu, ht, ho, asAgg, part, isAgg, sizeOf, go_sem]
/-- a whole operation is stored into a variable -/
theorem wpList_store_op {ops : Array Oper} {rest : List Oper} {a : Act} {w : World} {Q : Exit → Act → World → Prop} {d : Option Tmp} {x y : Tmp} {ty : TypeId} {pos : String} {after : Array Edge}
    (g : Nat) (cs c0 : List Value) (hf : cs.length = 38) (hf0 : c0.length = 38) (h1 : cs.toArray.all (·.oneCell') = true) (hx : a.tmps.getD x undef = .pointer (some ⟨g, 0, none⟩)) (hy : a.tmps.getD y undef = .agg cs.toArray)
    (hg : w.heap[g]? = some (.cells c0.toArray 26))
    (h : wpList Tryz.prog ops Q rest (a.put d undef) (w.setRow g cs.toArray)) :
    wpList Tryz.prog ops Q ({ dst := d, op := .store 26 (.tmp x) (.tmp y), type := ty, pos := pos, after := after, guard := none } :: rest) a w :=
  wpList_store_row rfl 26 (.tmp x) (.tmp y) rfl g cs.toArray hx hy 26 c0.toArray hg (by rw [size26]; simp [hf]) (by simp [hf, hf0]) h1 h
/-- a step that answers a value -/
theorem wpList_val {ops : Array Oper} {rest : List Oper} {o : Oper} {a : Act} {w : World} {Q : Exit → Act → World → Prop} (hgd : o.guard = none) (v : Value) (hr : (execOp a.eval o).run Tryz.prog w = .ok (.value v) w)
    (h : wpList Tryz.prog ops Q rest (a.put o.dst v) w) : wpList Tryz.prog ops Q (o :: rest) a w :=
  wpList_plain hgd fun K hK => by unfold Oper.wp; rw [hr]; exact hK _ _ h
theorem wpList_parts {ops : Array Oper} {rest : List Oper} {a : Act} {w : World} {Q : Exit → Act → World → Prop} {d : Option Tmp} {x : Tmp} {ty : TypeId} {pos : String} {after : Array Edge}
    (u : Value) (A : Option Addr) (n c : Nat) (hx : a.tmps.getD x undef = .agg #[u, .slice A n c]) (h : wpList Tryz.prog ops Q rest (a.put d (.slice A n c)) w) :
    wpList Tryz.prog ops Q ({ dst := d, op := .field 49 (.tmp x) 1, type := ty, pos := pos, after := after, guard := none } :: rest) a w := by
  refine wpList_val rfl (.slice A n c) ?_ h
  have hx' : a.eval (.tmp x) = .agg #[u, .slice A n c] := hx
  simp only [execOp, hx', field_parts, Sem.run_bind, Result.andThen_ok, Sem.run_pure]
theorem kindOp_len (k : Int) : (opV (kindOp k) (.slice none 0 0)).length = 38 := opV_length _ _ zeroD_length
set_option maxRecDepth 100000 in
theorem built_kind (k : Int) : Tryz.prog.built 26 [(0, .int .i64 k)] = some (opV (kindOp k) (.slice none 0 0)).toArray := by kernel_rfl
theorem wpList_build_kind {ops : Array Oper} {rest : List Oper} {a : Act} {w : World} {Q : Exit → Act → World → Prop} {d : Option Tmp} {x : Tmp} {ty : TypeId} {pos : String} {after : Array Edge}
    (k : Int) (hx : a.tmps.getD x undef = .int .i64 k) (h : wpList Tryz.prog ops Q rest (a.put d (.agg (opV (kindOp k) (.slice none 0 0)).toArray)) w) :
    wpList Tryz.prog ops Q ({ dst := d, op := .build 26 #[(0, .tmp x)], type := ty, pos := pos, after := after, guard := none } :: rest) a w := by
  have hx' : a.eval (.tmp x) = .int .i64 k := hx
  have e : Tryz.prog.built 26 ((#[(0, Operand.tmp x)] : Array (Nat × Operand)).map fun (i, y) => (i, a.eval y)).toList = some (opV (kindOp k) (.slice none 0 0)).toArray := by
    have h1 : ((#[(0, Operand.tmp x)] : Array (Nat × Operand)).map fun (i, y) => (i, a.eval y)).toList = [(0, .int .i64 k)] := by simp [hx']
    rw [h1]; exact built_kind k
  exact wpList_build rfl 26 _ rfl (by rw [e]; rfl) (by rw [e]; exact h)
theorem opV_one (x : OpV) (v : Value) (hv : v.oneCell' = true) : (opV x v).toArray.all (·.oneCell') = true := by
  have := digV_one x.d
  simp only [List.all_toArray] at this ⊢
  unfold opV
  simp only [List.all_cons, List.all_append, List.all_nil, this, hv]; rfl
theorem rangeAt_of_row {w : World} {g : Nat} {cs : List Value} {t : TypeId} {fr : Nat × Nat} (h : w.heap[g]? = some (.cells cs.toArray t fr)) : w.rangeAt g 0 cs := fun j v hv => by
  rw [Nat.zero_add, cell_of_row _ _ j _ _ _ h]
  simpa using hv
theorem takes_step {ps : List Nat} {ss : List (List UInt8)} (x : OpV) (k p : Nat) (s : List UInt8) (hp : ps[k]? = some p) (hs : ss[k]? = some s) :
    takesV x (ps.drop k) (ss.drop k) = if (takeV x p s).2 ≠ 0 then (zeroOp, (takeV x p s).2) else takesV (takeV x p s).1 (ps.drop (k + 1)) (ss.drop (k + 1)) := by
  obtain ⟨h1, rfl⟩ := List.getElem?_eq_some_iff.1 hp
  obtain ⟨h2, rfl⟩ := List.getElem?_eq_some_iff.1 hs
  rw [List.drop_eq_getElem_cons h1, List.drop_eq_getElem_cons h2]; rfl
theorem takes_end {ps : List Nat} {ss : List (List UInt8)} (x : OpV) {k : Nat} (h : ps.length ≤ k) : takesV x (ps.drop k) ss = (x, 0) := by
  rw [List.drop_eq_nil_of_le h]; rfl
/-- the loop: an operation lies in its block, and what is still to be taken in leads to the result -/
def TakeRel (kk : Nat) (r : List (List UInt8)) (wb : World) (res : OpV × Int) (wr : World) (k : Nat) : Prop :=
  ∃ x, OpIn wr wb.heap.size x ∧ takesV x ((partT kk).drop k) (r.drop k) = res ∧ Below wb.heap.size wb wr
theorem results_op {fn : Func} {p u : Tmp} (h : fn.results = #[.cell p 26, .tmp u]) (tmps : Array Value) (w : World) (g : Nat) (cs : List Value) (x : Value) (hl : cs.length = 38)
    (hp : tmps.getD p undef = .pointer (some ⟨g, 0, none⟩)) (hg : w.heap[g]? = some (.cells cs.toArray 26)) (hx : tmps.getD u undef = x) : (results fn tmps).run Tryz.prog w = .ok (.tuple #[.agg cs.toArray, x]) w := by
  obtain ⟨fs, hu⟩ := u26
  rw [results_cell_tmp h, hp, hx]
  have h1 : (asAddr (.pointer (some ⟨g, 0, none⟩))).run Tryz.prog w = .ok ⟨g, 0, none⟩ w := by simp [asAddr]
  rw [h1, Result.andThen_ok, run_loadVar_row w g 26 26 cs.toArray (0, 0) _ hg hu rfl (by rw [size26]; simp [hl]), Result.andThen_ok]
theorem words_small (s : ByteArray) (hs : s.size ≤ 8388608) : ∀ x ∈ splitC 32 s.data.toList, x.length ≤ 8388608 := by
  have aux : ∀ (l : List UInt8), ∀ x ∈ splitC 32 l, x.length ≤ l.length := by
    intro l
    induction l with
    | nil => intro x hx; simp [splitC] at hx; subst hx; simp
    | cons y t ih =>
      intro x hx
      have e : splitC 32 (y :: t) = if y = 32 then [] :: splitC 32 t else (y :: (splitC 32 t).headD []) :: (splitC 32 t).tail := rfl
      rw [e] at hx
      by_cases hy : y = 32
      · rw [if_pos hy] at hx
        rcases List.mem_cons.1 hx with rfl | hx
        · simp
        · have := ih x hx; simp; omega
      · rw [if_neg hy] at hx
        have hne := splitC_ne 32 t
        cases h : splitC 32 t with
        | nil => exact absurd h hne
        | cons w ws =>
          rw [h] at hx ih
          simp only [List.headD_cons, List.tail_cons] at hx
          rcases List.mem_cons.1 hx with rfl | hx
          · have := ih w (List.mem_cons_self ..); simp; omega
          · have := ih x (List.mem_cons_of_mem _ hx); simp; omega
  intro x hx
  have := aux _ x hx
  simp at this; omega
set_option maxHeartbeats 2000000 in
set_option maxRecDepth 100000 in
theorem read_calls (s : ByteArray) (w : World) (hs : s.size ≤ 8388608) (hE : LEnv w) :
    Calls Tryz.prog 7 #[.string s] w fun e w' => ∃ v, e = .returned (.tuple #[v, .int .i64 (readV s.data.toList).2]) ∧ OpVal w' v (readV s.data.toList).1 ∧ Below w.heap.size w w' := by
  have hb0 : Below w.heap.size w (w.alloc (.cells (opV zeroOp (.slice none 0 0)).toArray 26)) := (Below.refl _ _).alloc (Nat.le_refl _) _
  have hr0 : (w.alloc (.cells (opV zeroOp (.slice none 0 0)).toArray 26)).heap[w.heap.size]? = some (.cells (opV zeroOp (.slice none 0 0)).toArray 26 (0, 0)) := World.alloc_heap_new _ _
  have hE0 := hE.below hb0
  have HK := Lib.hid kind_calls
  have HSH := Lib.hid shapes_calls
  have hne := splitC_ne 32 s.data.toList
  go_enter Tryz.func7, Tryz.ntmps7
  go_upto_region 1 with (fail)
  change Code.wp _ _ _ _ (w.alloc (.cells (opV zeroOp (.slice none 0 0)).toArray 26))
  generalize w.alloc (.cells (opV zeroOp (.slice none 0 0)).toArray 26) = w0 at *
  obtain ⟨hE1, m, hm⟩ := hE0
  have HW := Lib.hid (words_calls s 32 m w0 hs hm)
  have HB0 := Lib.hid hb0
  have HR0 := Lib.hid hr0
  have HE1 := Lib.hid hE1
  clear hb0 hr0 hE1 hE hm
  go_wp2_with fail
  refine HW.out.mono ?_
  rintro e w1 ⟨a, rfl, hst, b1⟩
  have HB1 := Lib.hid b1
  have HST := Lib.hid hst
  have hR : Hid (readV s.data.toList = if kindW ((splitC 32 s.data.toList).headD []) = 0 then (zeroOp, 3)
      else if (splitC 32 s.data.toList).length ≠ (partT (kindW ((splitC 32 s.data.toList).headD []))).length + 1 then (zeroOp, 3)
      else takesV (kindOp (kindW ((splitC 32 s.data.toList).headD []))) (partT (kindW ((splitC 32 s.data.toList).headD []))) (splitC 32 s.data.toList).tail) := rfl
  have hwl : Hid (∀ x ∈ splitC 32 s.data.toList, x.length ≤ 8388608) := words_small s hs
  clear b1 hst HW
  generalize splitC 32 s.data.toList = L at *
  cases L with
  | nil => exact absurd rfl hne
  | cons x0 r =>
    simp only [List.headD_cons, List.tail_cons, List.length_cons] at hR HST
    obtain ⟨a', c', ea, hcl⟩ := HST.out
    obtain ⟨g1, o1, rfl, c0⟩ := hcl 0 x0 rfl
    obtain rfl : a = ⟨g1, o1, none⟩ := by
      injection ea with ea _ _
      injection ea
    clear ea hcl
    rw [Nat.add_zero] at c0
    have hpos : (0 : Int) < (r.length : Int) + 1 := by omega
    simp only [List.length_cons]
    go_wp2_with fail
    have hk := HK.out ⟨x0.toArray⟩ w1
    rw [show (⟨x0.toArray⟩ : ByteArray).data.toList = x0 by simp] at hk
    have hkle := kindW_le x0
    obtain ⟨kk, hkk⟩ : ∃ kk, kindW x0 = kk := ⟨_, rfl⟩
    simp only [hkk] at hR hk hkle
    clear hkk
    refine hk.mono ?_
    rintro e w2 ⟨rfl, b2⟩
    have HB2 : Hid (Below w0.heap.size w0 w2) := HB1.out.trans (b2.mono HB1.out.size)
    have HST2 := Lib.hid (HST.out.below b2)
    have hs2 := HB2.out.size
    clear hk b2
    by_cases hz : kk = 0
    · have HR : Hid (readV s.data.toList = (zeroOp, 3)) := by rw [hR.out, if_pos hz]; exact rfl
      have hz' : ((kk : Int) == 0) = true := by rw [hz]; rfl
      clear hR hz
      have hr2 := (HB2.out.block w.heap.size (lt_of_block HR0.out)).trans HR0.out
      have hzl : (opV zeroOp (.slice none 0 0)).length = 38 := opV_length _ _ zeroD_length
      go_wp2_with (first | ((with_reducible apply wpList_store_op w.heap.size (c0 := opV zeroOp (.slice none 0 0))); (case hy => rfl); (case hx => rfl); (case hf => rfl); (case hf0 => exact hzl); (case h1 => simp [Value.oneCell']); (case hg => exact hr2)))
      refine bodyPost_ret_by (results_op rfl _ _ w.heap.size (opV zeroOp (.slice none 0 0)) _ hzl rfl (setRow_heap _ _ _ (opV zeroOp (.slice none 0 0)).toArray _ _ hr2) rfl) rfl ?_
      rw [HR.out]
      exact ⟨_, rfl, ⟨none, 0, rfl, fun k v hk => by simp [zeroOp, Lib.byteCells] at hk⟩, below_setRow (HB0.out.trans (HB2.out.mono HB0.out.size)) (Nat.le_refl _) _⟩
    · have hz' : ((kk : Int) == 0) = false := by rw [beq_eq_false_iff_ne]; omega
      have hkk0 : (0 : Int) ≤ kk := by omega
      have hkk20 : (kk : Int) ≤ 20 := by omega
      have hr2 := (HB2.out.block w.heap.size (lt_of_block HR0.out)).trans HR0.out
      have HR2 := Lib.hid hr2
      have HZ := Lib.hid hz
      clear hz hr2
      go_wp2_with fail
      refine (HSH.out w2).mono ?_
      rintro e w3 ⟨vs, rfl, hvs, hin, b3⟩
      obtain ⟨v, hv⟩ : ∃ v, vs[kk]? = some v := ⟨_, List.getElem?_eq_getElem (by omega)⟩
      obtain ⟨Av, cv, rfl, hcv⟩ := hin kk v hv
      rw [List.length_map] at hv
      have hix := index_shapes kk hkle vs _ hv
      have hfd := field_parts (.string ⟨(wordT kk).toArray⟩) Av (partT kk).length cv
      have HCV := Lib.hid hcv
      have HB3 : Hid (Below w0.heap.size w0 w3) := HB2.out.trans (b3.mono hs2)
      have HST3 := Lib.hid (HST2.out.below b3)
      have HR3 : Hid (w3.heap[w.heap.size]? = some (.cells (opV zeroOp (.slice none 0 0)).toArray 26 (0, 0))) := (b3.block _ (lt_of_block HR2.out)).trans HR2.out
      have hs3 := HB3.out.size
      clear hcv hin b3 HB2 HST2 HR2
      by_cases hl : r.length = (partT kk).length
      · have hl1 : (((r.length : Int) + 1) != ((partT kk).length : Int) + 1) = false := by simp; omega
        have HL := Lib.hid hl
        have hpl : ((partT kk).length : Int) ≤ 3 := by have := partI_len ⟨kk, by omega⟩; simp only at this; omega
        have HRR : Hid (readV s.data.toList = takesV (kindOp kk) (partT kk) r) := by rw [hR.out, if_neg HZ.out, if_neg (by omega)]; exact rfl
        clear hl hR
        go_upto_region 9 with (first | ((with_reducible apply wpList_parts); rfl) | ((with_reducible apply wpList_build_kind); rfl) | ((with_reducible apply wpList_store_op w3.heap.size (c0 := opV zeroOp (.slice none 0 0))); (case hy => rfl); (case hx => rfl); (case hf => exact kindOp_len _); (case hf0 => exact kindOp_len 0); (case h1 => simp [Value.oneCell', opV, digV]); (case hg => exact World.alloc_heap_new _ _)))
        have hra : (w3.alloc (.cells (opV zeroOp (.slice none 0 0)).toArray 26)).heap[w3.heap.size]? = some (.cells (opV zeroOp (.slice none 0 0)).toArray 26 (0, 0)) := World.alloc_heap_new _ _
        have hrx := setRow_heap _ _ _ (opV (kindOp kk) (.slice none 0 0)).toArray _ _ hra
        have hbx : Below w3.heap.size w3 ((w3.alloc (.cells (opV zeroOp (.slice none 0 0)).toArray 26)).setRow w3.heap.size (opV (kindOp kk) (.slice none 0 0)).toArray) := below_setRow ((Below.refl _ _).alloc (Nat.le_refl _) _) (Nat.le_refl _) _
        change Code.wp _ _ _ _ ((w3.alloc (.cells (opV zeroOp (.slice none 0 0)).toArray 26)).setRow w3.heap.size (opV (kindOp kk) (.slice none 0 0)).toArray)
        generalize (w3.alloc (.cells (opV zeroOp (.slice none 0 0)).toArray 26)).setRow w3.heap.size (opV (kindOp kk) (.slice none 0 0)).toArray = w4 at *
        have hrel0 : TakeRel kk r w3 (readV s.data.toList) w4 0 := ⟨kindOp kk, ⟨⟨none, 0, hrx, fun k v hk => by simp [kindOp, Lib.byteCells] at hk, fun a h => by cases h⟩, zeroD_length⟩, HRR.out.symm, hbx⟩
        have HREL0 := Lib.hid hrel0
        clear hrx hra hbx hrel0 hfd hix hl1 hv hvs c0
        obtain ⟨res, hres0⟩ : ∃ res, readV s.data.toList = res := ⟨_, rfl⟩
        rw [hres0] at HREL0
        have HRES0 := Lib.hid hres0
        clear hres0
        go_wp2_with fail
        go_loopw [35] (fun c wr => ∃ k : Nat, c = .int .i64 k ∧ (k : Int) ≤ (partT kk).length ∧ Hid (TakeRel kk r w3 res wr k)) (fun c _ => (partT kk).length - (intOf c).toNat)
        case atStart => exact ⟨0, rfl, by omega, HREL0⟩
        case round =>
          obtain ⟨k, rfl, hk, hrel⟩ := hrel
          obtain ⟨x, hx, hres, hb⟩ := hrel.out
          have HB := Lib.hid hb
          have HX := Lib.hid hx
          have HBW : Hid (Below w0.heap.size w0 wr) := HB3.out.trans (hb.mono hs3)
          by_cases hlt : (k : Int) < (partT kk).length
          · obtain ⟨p, hp⟩ : ∃ p, (partT kk)[k]? = some p := ⟨_, List.getElem?_eq_getElem (by omega)⟩
            obtain ⟨sx, hsx⟩ : ∃ sx, r[k]? = some sx := ⟨_, List.getElem?_eq_getElem (by have := HL.out; omega)⟩
            have hp5 : p ≤ 5 := by
              have := letT_le ⟨kk, by omega⟩ p (List.mem_of_getElem? hp)
              exact this
            obtain ⟨g2, o2, rfl, hc2⟩ := (HCV.out.below hb) k (.int .i64 p) (by rw [List.getElem?_map, List.getElem?_map, hp]; rfl)
            obtain ⟨a', c1', ea, hcl⟩ := HST3.out.below hb
            obtain ⟨g1', o1', ea', hc3⟩ := hcl (k + 1) sx hsx
            obtain ⟨rfl, rfl⟩ : g1 = g1' ∧ o1 = o1' := by
              injection ea with ea _ _
              rw [ea'] at ea
              injection ea with ea
              injection ea with e1 e2
              exact ⟨e1, e2⟩
            have hsl : sx.length ≤ 8388608 := hwl.out sx (List.mem_cons_of_mem _ (List.mem_of_getElem? hsx))
            have HT := Lib.hid (take_calls x w3.heap.size p ⟨sx.toArray⟩ w0 wr HBW.out HE1.out hs3 hx (by show sx.toArray.size ≤ _; simpa using hsl) hp5)
            rw [show (⟨sx.toArray⟩ : ByteArray).data.toList = sx by simp] at HT
            rw [takes_step x k p sx hp hsx] at hres
            have HRES := Lib.hid hres
            have hkl : (k : Int) + 1 < (r.length : Int) + 1 := by have := HL.out; omega
            clear ea ea' hcl hsx hp hp5 hsl hx hb hres hrel
            by_cases he : (takeV x p sx).2 = 0
            · have hq : ((takeV x p sx).2 != 0) = false := by rw [he]; rfl
              have HE := Lib.hid he
              clear he
              generalize (takeV x p sx).2 = E at *
              go_wp2_with (first | (go_at_call 20; refine HT.out.mono ?_; rintro e w5 ⟨rfl, hx5, hg5⟩))
              go_roundw
              case measure => simp [intOf]; omega
              case rel => exact ⟨k + 1, by go_num, by omega, ⟨_, hx5 HE.out, by rw [← HRES.out, if_neg (by rw [HE.out]; simp)], HB.out.grown hg5 HB.out.size (by rintro _ ⟨⟩; exact Nat.le_refl _)⟩⟩
            · have hq : ((takeV x p sx).2 != 0) = true := by simpa using he
              have HE := Lib.hid he
              clear he
              generalize (takeV x p sx).2 = E at *
              go_upto_region 14 with (first | (go_at_call 20; refine HT.out.mono ?_; rintro e w5 ⟨rfl, hx5, hg5⟩))
              have hb5 := HB.out.grown hg5 HB.out.size (by rintro _ ⟨⟩; exact Nat.le_refl _)
              have hr5 := (hb5.block _ (lt_of_block HR3.out)).trans HR3.out
              have HB5 := Lib.hid hb5
              have hzl : (opV zeroOp (.slice none 0 0)).length = 38 := opV_length _ _ zeroD_length
              clear hx5 hg5 hb5
              go_wp2_with (first | ((with_reducible apply wpList_store_op w.heap.size (c0 := opV zeroOp (.slice none 0 0))); (case hy => rfl); (case hx => rfl); (case hf => rfl); (case hf0 => exact hzl); (case h1 => simp [Value.oneCell']); (case hg => exact hr5)))
              refine bodyPost_ret_by (results_op rfl _ _ w.heap.size (opV zeroOp (.slice none 0 0)) _ hzl rfl (setRow_heap _ _ _ (opV zeroOp (.slice none 0 0)).toArray _ _ hr5) rfl) rfl ?_
              rw [HRES0.out, ← HRES.out, if_pos HE.out]
              exact ⟨_, rfl, ⟨none, 0, rfl, fun k v hk => by simp [zeroOp, Lib.byteCells] at hk⟩, below_setRow (HB0.out.trans ((HB3.out.trans (HB5.out.mono hs3)).mono HB0.out.size)) (Nat.le_refl _) _⟩
          · rw [takes_end x (by omega)] at hres
            have HRES := Lib.hid hres
            have hr5 := (hb.block _ (lt_of_block HR3.out)).trans HR3.out
            obtain ⟨⟨A, cap, hrow, hcells, hap⟩, hd⟩ := hx
            have hrg : wr.rangeAt w3.heap.size 0 (opV x (.slice A x.b.length cap)) := rangeAt_of_row hrow
            have HRG := Lib.hid hrg
            have HROW := Lib.hid hrow
            have HD := Lib.hid hd
            have HCELLS := Lib.hid hcells
            have HAP := Lib.hid hap
            have hn0 := lt_of_block HR0.out
            have C1 := Lib.hid (show (Tryz.prog.info? 26).map (·.size) = some (opV x (.slice A x.b.length cap)).length by rw [size26, opV_length _ _ hd])
            have hl38 := Lib.hid (opV_length x (.slice A x.b.length cap) hd)
            have h1c := Lib.hid (opV_one x (.slice A x.b.length cap) rfl)
            have hz0 : (opV zeroOp (.slice none 0 0)).length = 38 := kindOp_len 0
            clear hres hb hrel hrow hcells hap hd hrg
            generalize hcs : opV x (.slice A x.b.length cap) = cs at *
            go_wp2_with (first | (refine wpList_load_mid rfl 26 _ rfl w3.heap.size 0 rfl cs _ HRG.out Tryz.underlying26 rfl C1.out ?_) | ((with_reducible apply wpList_store_op w.heap.size (cs := cs) (c0 := opV zeroOp (.slice none 0 0))); (case hy => rfl); (case hx => rfl); (case hf => exact hl38.out); (case hf0 => exact hz0); (case h1 => exact h1c.out); (case hg => exact hr5)))
            refine bodyPost_ret_by (results_op rfl _ _ w.heap.size cs _ hl38.out rfl (setRow_heap _ _ _ cs.toArray _ _ hr5) rfl) rfl ?_
            rw [HRES0.out, ← HRES.out]
            refine ⟨_, rfl, ⟨A, cap, by rw [← hcs], ?_⟩, below_setRow (HB0.out.trans (HBW.out.mono HB0.out.size)) (Nat.le_refl _) _⟩
            intro k v hk
            obtain ⟨b, o, e, hc⟩ := HCELLS.out k v hk
            refine ⟨b, o, e, ?_⟩
            have := HAP.out _ e
            rw [cell_setRow_other _ _ _ _ (by show b ≠ w.heap.size; simp only at this; omega)]; exact hc
      · have HRR : Hid (readV s.data.toList = (zeroOp, 3)) := by rw [hR.out, if_neg HZ.out, if_pos (by omega)]; exact rfl
        have hl1 : (((r.length : Int) + 1) != ((partT kk).length : Int) + 1) = true := by simp; omega
        have hzl : (opV zeroOp (.slice none 0 0)).length = 38 := opV_length _ _ zeroD_length
        have hpl : ((partT kk).length : Int) ≤ 3 := by have := partI_len ⟨kk, by omega⟩; simp only at this; omega
        clear hl hR
        have hr3 := HR3.out
        go_wp2_with (first | ((with_reducible apply wpList_store_op w.heap.size (c0 := opV zeroOp (.slice none 0 0))); (case hy => rfl); (case hx => rfl); (case hf => rfl); (case hf0 => exact hzl); (case h1 => simp [Value.oneCell']); (case hg => exact hr3)))
        refine bodyPost_ret_by (results_op rfl _ _ w.heap.size (opV zeroOp (.slice none 0 0)) _ hzl rfl (setRow_heap _ _ _ (opV zeroOp (.slice none 0 0)).toArray _ _ hr3) rfl) rfl ?_
        rw [HRR.out]
        exact ⟨_, rfl, ⟨none, 0, rfl, fun k v hk => by simp [zeroOp, Lib.byteCells] at hk⟩, below_setRow (HB0.out.trans (HB3.out.mono HB0.out.size)) (Nat.le_refl _) _⟩
end Go.Proofs.YtjplfkcelkijfaaGreatDoor
