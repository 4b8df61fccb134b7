/- digest.Read. Condition: texts of at most 140737488351232 bytes. -/
import Derived.Laws.CopyOwn
import Derived.Lib.BufferWrite
import Derived.Test.YtjplfkcelkijfaaGreatDoorHxM
namespace Go.Proofs.YtjplfkcelkijfaaGreatDoor
open Go.RowKit
def zeroD : List UInt8 := List.replicate 32 0
theorem zeroD_length : zeroD.length = 32 := by simp [zeroD]
theorem info23 : (Tryz.prog.info? 23).map (fun i => (i.zero, i.size)) = some (some (.agg (digV zeroD).toArray), 32) := by kernel_rfl
theorem zero23 : ∀ w, (zeroValue 23).run Tryz.prog w = .ok (.agg (digV zeroD).toArray) w := (zero_of_info info23).1
theorem wpList_alloc_dig {ops : Array Oper} {rest : List Oper} {a : Act} {w : World} {Q : Exit → Act → World → Prop} {d : Option Tmp} {ty : TypeId} {pos : String} {after : Array Edge}
    (h : wpList Tryz.prog ops Q rest (a.put d (.pointer (some ⟨w.heap.size, 0, none⟩))) (w.alloc (.cells (digV zeroD).toArray 23))) :
    wpList Tryz.prog ops Q ({ dst := d, op := .alloc 23, type := ty, pos := pos, after := after, guard := none } :: rest) a w := by
  refine wpList_plain rfl fun K hK => ?_
  simp only [Oper.wp, execOp, Instr.alloc, Sem.run_bind, zero23, Result.andThen_ok, newVar, newRow]
  exact hK _ _ h
theorem wpList_store_dig {ops : Array Oper} {rest : List Oper} {a : Act} {w : World} {Q : Exit → Act → World → Prop} {d : Option Tmp} {x y : Tmp} {ty : TypeId} {pos : String} {after : Array Edge}
    (g : Nat) (l l0 : List UInt8) (hf : l.length = 32) (hf0 : l0.length = 32) (hx : a.tmps.getD x undef = .pointer (some ⟨g, 0, none⟩)) (hy : a.tmps.getD y undef = .agg (digV l).toArray)
    (hg : w.heap[g]? = some (.cells (digV l0).toArray 23))
    (h : wpList Tryz.prog ops Q rest (a.put d undef) (w.setRow g (digV l).toArray)) :
    wpList Tryz.prog ops Q ({ dst := d, op := .store 23 (.tmp x) (.tmp y), type := ty, pos := pos, after := after, guard := none } :: rest) a w :=
  wpList_store_row rfl 23 (.tmp x) (.tmp y) rfl g (digV l).toArray hx hy 23 (digV l0).toArray hg (by rw [size23]; simp [digV_length, hf]) (by simp [digV_length, hf, hf0]) (digV_one l) h
theorem wpList_build_dig {ops : Array Oper} {rest : List Oper} {a : Act} {w : World} {Q : Exit → Act → World → Prop} {d : Option Tmp} {ty : TypeId} {pos : String} {after : Array Edge}
    (h : wpList Tryz.prog ops Q rest (a.put d (.agg (digV zeroD).toArray)) w) :
    wpList Tryz.prog ops Q ({ dst := d, op := .build 23 #[], type := ty, pos := pos, after := after, guard := none } :: rest) a w := by
  refine wpList_plain rfl fun K hK => ?_
  have hb : (Instr.build 23 #[]).run Tryz.prog w = .ok (.agg (digV zeroD).toArray) w := by
    obtain ⟨z, hz⟩ : ∃ z, z = (digV zeroD).toArray := ⟨_, rfl⟩
    have h0 := zero23 w
    rw [← hz] at h0 ⊢
    unfold Instr.build
    simp [Sem.run_bind, h0, Instr.fill, Value.cells]
  simp only [Oper.wp, execOp, Array.map_empty, Sem.run_bind, hb, Result.andThen_ok, Sem.run_pure]
  exact hK _ _ h
def digOk (s : List UInt8) : Bool := Lib.hasPrefix s kindL && (hexOk (Lib.trimPrefix s kindL) && decide ((hexP (Lib.trimPrefix s kindL)).length = 32))
def digD (s : List UInt8) : List UInt8 := if digOk s then hexP (Lib.trimPrefix s kindL) else zeroD
theorem digD_length (s : List UInt8) : (digD s).length = 32 := by
  unfold digD
  split
  · rename_i h
    unfold digOk at h
    rw [Bool.and_eq_true, Bool.and_eq_true, decide_eq_true_eq] at h
    exact h.2.2
  · exact zeroD_length
theorem results_dig {fn : Func} {p u : Tmp} (h : fn.results = #[.cell p 23, .tmp u]) (tmps : Array Value) (w : World) (g : Nat) (l : List UInt8) (x : Value) (hl : l.length = 32)
    (hp : tmps.getD p undef = .pointer (some ⟨g, 0, none⟩)) (hg : w.heap[g]? = some (.cells (digV l).toArray 23)) (hx : tmps.getD u undef = x) : (results fn tmps).run Tryz.prog w = .ok (.tuple #[.agg (digV l).toArray, x]) w := by
  rw [results_cell_tmp h, hp, hx]
  have h1 : (asAddr (.pointer (some ⟨g, 0, none⟩))).run Tryz.prog w = .ok ⟨g, 0, none⟩ w := by simp [asAddr]
  rw [h1, Result.andThen_ok, run_loadVar_row w g 23 23 (digV l).toArray (0, 0) _ hg Tryz.underlying23 rfl (by rw [size23]; simp [digV_length, hl]), Result.andThen_ok]
theorem size5 : (Tryz.prog.info? 5).map (·.size) = some 1 := by kernel_rfl
theorem copy_dig (w1 : World) (b o cap : Nat) (l : List UInt8) (hl : l.length = 32) (hsrc : ∀ j v, (Lib.byteCells l)[j]? = some v → w1.cell? ((⟨b, o, none⟩ : Addr).add j) = some v) :
    (Builtin.copy_ #[24, 24] 3 #[.slice (some ⟨w1.heap.size, 0, none⟩) 32 32, .slice (some ⟨b, o, none⟩) 32 cap]).run Tryz.prog (w1.alloc (.cells (digV zeroD).toArray 23)) = .ok (goInt 32) (w1.alloc (.cells (digV l).toArray 23)) := by
  have hlen : (Lib.byteCells l).length = 32 := by rw [Lib.byteCells_length, hl]
  have := run_copy_row (P := Tryz.prog) (w1.alloc (.cells (digV zeroD).toArray 23)) 24 24 3 5 w1.heap.size 0 32 32 ⟨b, o, none⟩ 32 cap (digV zeroD).toArray 23 (Lib.byteCells l) Tryz.underlying24 size5 (heap_alloc_new w1 _) (by rw [hlen]; rfl)
    (fun j v hv => by
      have h := hsrc j v hv
      rw [Addr.add_mid] at h ⊢
      exact (((Below.refl _ _).alloc (Nat.le_refl _) _).cell (p := ⟨b, o + j, none⟩) (World.block_lt_of_cell? _ _ h)).trans h)
    (by rw [hlen]; simp [digV_length, zeroD_length]) (Lib.byteCells_one l)
  rw [this, hlen, World.setRow_alloc_new]
  have e : (List.take 0 (digV zeroD).toArray.toList ++ Lib.byteCells l ++ List.drop (0 + 32) (digV zeroD).toArray.toList) = digV l := by
    have : List.drop (0 + 32) (digV zeroD).toArray.toList = [] := List.drop_eq_nil_of_le (by simp [digV_length, zeroD_length])
    rw [this, List.take_zero, List.nil_append, List.append_nil]; rfl
  rw [e]; rfl
/-- what a digest's reading answers -/
def DigPost (s : List UInt8) (w : World) (e : Ending) (w' : World) : Prop :=
  e = .returned (.tuple #[.agg (digV (digD s)).toArray, .int .i64 (if digOk s then 0 else 3)]) ∧ Below w.heap.size w w'
set_option maxHeartbeats 2000000 in
set_option maxRecDepth 100000 in
theorem digRead_calls (s : ByteArray) (w : World) (hs : s.size ≤ 140737488351232) :
    Calls Tryz.prog 47 #[.string s] w (DigPost s.data.toList w) := by
  have hls : s.data.toList.length = s.size := by simp
  have htl : (Lib.trimPrefix s.data.toList kindL).length ≤ 140737488351232 := by
    unfold Lib.trimPrefix
    split
    · rw [List.length_drop]; omega
    · omega
  have h82 := fun x => hexRead_calls ⟨(Lib.trimPrefix s.data.toList kindL).toArray⟩ x (by show (Lib.trimPrefix s.data.toList kindL).toArray.size ≤ _; simpa using htl)
  simp only at h82
  have H82 := Lib.hid h82
  clear h82 htl hls hs
  go_enter Tryz.func47, Tryz.ntmps47
  go_upto_region 3 with (first | (with_reducible refine wpList_alloc_dig ?_) | (go_at_call 67; refine (Tryz.strings_CutPrefix _ _ _).mono ?_; rintro e w1 ⟨rfl, rfl⟩) | (go_at_call 69; refine (H82.out _).mono ?_; rintro e w1 ⟨A, cap, rfl, hC, hb, _⟩))
  have hk : ([115, 104, 97, 50, 53, 54, 58] : List UInt8) = kindL := rfl
  rw [hk]
  have hr0 : w1.heap[w.heap.size]? = some (.cells (digV zeroD).toArray 23) := (hb.block _ (by simp)).trans (heap_alloc_new w _)
  have hbw : Below w.heap.size w w1 := ((Below.refl _ _).alloc (Nat.le_refl _) _).trans (hb.mono (by simp))
  have HR0 := Lib.hid hr0
  have HBW := Lib.hid hbw
  have hdg : ∀ q, digOk s.data.toList = q → digD s.data.toList = if q then hexP (Lib.trimPrefix s.data.toList kindL) else zeroD := fun q hq => by unfold digD; rw [hq]
  have hok : digOk s.data.toList = (Lib.hasPrefix s.data.toList kindL && (hexOk (Lib.trimPrefix s.data.toList kindL) && decide ((hexP (Lib.trimPrefix s.data.toList kindL)).length = 32))) := rfl
  have bad : digOk s.data.toList = false → DigPost s.data.toList w (.returned (.tuple #[.agg (digV zeroD).toArray, .int .i64 3])) (w1.setRow w.heap.size (digV zeroD).toArray) := fun hq => by
    refine ⟨?_, below_setRow hbw (Nat.le_refl _) _⟩
    rw [hdg _ hq, hq]; rfl
  have hR1 := setRow_heap w1 w.heap.size _ (digV zeroD).toArray 23 (0, 0) hr0
  have HR1 := Lib.hid hR1
  have BAD := Lib.hid bad
  have HDG := Lib.hid hdg
  have HOK := Lib.hid hok
  clear hr0 hbw hdg hok bad hR1 hb H82
  generalize Lib.trimPrefix s.data.toList kindL = T at *
  generalize hP : Lib.hasPrefix s.data.toList kindL = P at *
  clear hP
  generalize hO : hexOk T = O at *
  clear hO
  cases O
  · simp only [Bool.false_eq_true, if_false] at hC ⊢
    clear hC
    cases P
    · go_wp2_with (first | (with_reducible refine wpList_build_dig ?_) | ((with_reducible apply wpList_store_dig w.heap.size zeroD zeroD zeroD_length zeroD_length); rfl; rfl; exact HR0.out))
      refine bodyPost_ret_by (results_dig rfl _ _ w.heap.size zeroD _ zeroD_length rfl HR1.out rfl) rfl ?_
      exact BAD.out (by rw [HOK.out]; rfl)
    · go_wp2_with (first | (with_reducible refine wpList_build_dig ?_) | ((with_reducible apply wpList_store_dig w.heap.size zeroD zeroD zeroD_length zeroD_length); rfl; rfl; exact HR0.out))
      refine bodyPost_ret_by (results_dig rfl _ _ w.heap.size zeroD _ zeroD_length rfl HR1.out rfl) rfl ?_
      exact BAD.out (by rw [HOK.out]; rfl)
  · simp only [if_true] at hC ⊢
    cases P
    · clear hC
      go_wp2_with (first | (with_reducible refine wpList_build_dig ?_) | ((with_reducible apply wpList_store_dig w.heap.size zeroD zeroD zeroD_length zeroD_length); rfl; rfl; exact HR0.out))
      refine bodyPost_ret_by (results_dig rfl _ _ w.heap.size zeroD _ zeroD_length rfl HR1.out rfl) rfl ?_
      exact BAD.out (by rw [HOK.out]; rfl)
    · by_cases hl : (hexP T).length = 32
      · obtain ⟨c0, hc0⟩ : ∃ c, (Lib.byteCells (hexP T))[0]? = some c := ⟨_, List.getElem?_eq_getElem (by rw [Lib.byteCells_length]; omega)⟩
        obtain ⟨b, o, rfl, _⟩ := hC 0 c0 hc0
        have hli : (((hexP T).length : Int) == 32) = true := by rw [beq_iff_eq]; omega
        have hsrc : ∀ j v, (Lib.byteCells (hexP T))[j]? = some v → w1.cell? ((⟨b, o, none⟩ : Addr).add j) = some v := fun j v hv => by rw [Addr.add_mid]; exact hC.at' hv
        have HL := Lib.hid hl
        have HS := Lib.hid hsrc
        clear hl hC hc0 hsrc
        have hcp := copy_dig w1 b o cap (hexP T) HL.out HS.out
        have HCP := Lib.hid hcp
        have hb2 : Below w.heap.size w (w1.alloc (.cells (digV (hexP T)).toArray 23)) := HBW.out.alloc HBW.out.size _
        have hlt0 : w.heap.size < w1.heap.size := (Array.getElem?_eq_some_iff.1 HR0.out).1
        have hr2 : (w1.alloc (.cells (digV (hexP T)).toArray 23)).heap[w.heap.size]? = some (.cells (digV zeroD).toArray 23) := (Lib.alloc_old w1 _ _ hlt0).trans HR0.out
        have hr3 := setRow_heap _ w.heap.size _ (digV (hexP T)).toArray 23 (0, 0) hr2
        have HR2 := Lib.hid hr2
        have HR3 := Lib.hid hr3
        have HB2 := Lib.hid hb2
        clear hcp hb2 hr2 hr3 hlt0
        rw [HL.out]
        go_wp2_with (first | (with_reducible refine wpList_alloc_dig ?_) | (rw [HCP.out, Result.andThen_ok]) | ((with_reducible apply wpList_load_dig w1.heap.size 0 (hexP T)); rfl; exact rangeAt_new _ _ _; exact HL.out) | ((with_reducible apply wpList_store_dig w.heap.size (hexP T) zeroD HL.out zeroD_length); rfl; rfl; exact HR2.out))
        refine bodyPost_ret_by (results_dig rfl _ _ w.heap.size (hexP T) _ HL.out rfl HR3.out rfl) rfl ?_
        have hq : digOk s.data.toList = true := by rw [HOK.out, decide_eq_true HL.out]; rfl
        refine ⟨?_, below_setRow HB2.out (Nat.le_refl _) _⟩
        rw [HDG.out _ hq, hq]; rfl
      · have hli : (((hexP T).length : Int) == 32) = false := by rw [beq_eq_false_iff_ne]; omega
        have HL := Lib.hid hl
        clear hl hC
        go_wp2_with (first | (with_reducible refine wpList_build_dig ?_) | ((with_reducible apply wpList_store_dig w.heap.size zeroD zeroD zeroD_length zeroD_length); rfl; rfl; exact HR0.out))
        refine bodyPost_ret_by (results_dig rfl _ _ w.heap.size zeroD _ zeroD_length rfl HR1.out rfl) rfl ?_
        exact BAD.out (by rw [HOK.out, decide_eq_false HL.out]; rfl)
end Go.Proofs.YtjplfkcelkijfaaGreatDoor
