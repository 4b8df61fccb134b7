/- line.say: a part read into a reply. Condition: a word of at most 8388608 bytes; what lies in variables. -/
import Derived.Deep.CutRange
import Derived.Test.YtjplfkcelkijfaaGreatDoorYa
namespace Go.Proofs.YtjplfkcelkijfaaGreatDoor
open Go.RowKit
attribute [local go_sem] equalIn_dig eqGuard39

/-- a reply lies in a block, its data and its names elsewhere -/
structure RepIn (w : World) (g : Nat) (r : RepV) : Prop where
  row : ∃ A c1 A2 c2, w.heap[g]? = some (.cells (repS r A c1 A2 c2).toArray 37 (0, 0)) ∧ CellsIn w A (Lib.byteCells r.b) ∧ (∀ a, A = some a → g < a.block) ∧ StrsIn w (.slice A2 r.l.length c2) r.l ∧ r.l.length ≤ c2
  d : r.d.length = 32
theorem rep_no_str (r : RepV) (A : Option Addr) (c1 : Nat) (A2 : Option Addr) (c2 : Nat) : ∀ v ∈ repS r A c1 A2 c2, ∀ s, v ≠ .string s := by
  intro v hv s e
  subst e
  unfold repS repV at hv
  simp only [List.mem_cons, List.mem_append, List.not_mem_nil, or_false] at hv
  rcases hv with h | h | h | h | h | h | h
  all_goals first | (cases h; done) | (unfold digV at h; obtain ⟨c, _, hc⟩ := List.mem_map.1 h; cases hc)
theorem strs_far {w w' : World} {g : Nat} {v : Value} {l : List (List UInt8)} {cs : List Value} {t : TypeId} (h : StrsIn w v l) (hg : w.grownBy w' (some g)) (hr : w.heap[g]? = some (.cells cs.toArray t (0, 0))) (hn : ∀ v ∈ cs, ∀ s, v ≠ .string s) : StrsIn w' v l := by
  obtain ⟨a, cap, e, hc⟩ := h
  refine ⟨a, cap, e, fun k x hk => ?_⟩
  obtain ⟨b, o, ha, hcell⟩ := hc k x hk
  refine ⟨b, o, ha, hg.cell hcell (fun e' => ?_)⟩
  injection e' with e'
  simp only at e'
  subst e'
  rw [Lib.cell_of_heap hr] at hcell
  rw [List.getElem?_toArray] at hcell
  exact hn _ (List.mem_of_getElem? hcell) _ rfl
theorem repIn_set {w w1 : World} {g j : Nat} {r r' : RepV} {u : Value} {A : Option Addr} {c1 : Nat} {A2 : Option Addr} {c2 : Nat} (hb : Below w.heap.size w w1) (hg : g < w.heap.size) (hr : w1.heap[g]? = some (.cells (repS r A c1 A2 c2).toArray 37 (0, 0)))
    (hc : CellsIn w A (Lib.byteCells r.b)) (ha : ∀ a, A = some a → g < a.block) (hs : StrsIn w (.slice A2 r.l.length c2) r.l) (hcap : r.l.length ≤ c2) (hd : r'.d.length = 32) (hbb : r'.b = r.b) (hll : r'.l = r.l)
    (he : (repS r A c1 A2 c2).set j u = repS r' A c1 A2 c2) : RepIn (w1.setCell ⟨g, j, none⟩ u) g r' ∧ w.grownBy (w1.setCell ⟨g, j, none⟩ u) (some g) := by
  have hgr := grown_set (grown_of_below hb g) j u
  have hr0 : w.heap[g]? = some (.cells (repS r A c1 A2 c2).toArray 37 (0, 0)) := (hb.block g hg).symm.trans hr
  refine ⟨⟨⟨A, c1, A2, c2, ?_, ?_, ha, ?_, by rw [hll]; exact hcap⟩, hd⟩, hgr⟩
  · rw [heap_setCell_same w1 g j _ 37 u hr, List.setIfInBounds_toArray, he]
  · rw [hbb]; exact cells_far hc hgr fun a e => Nat.ne_of_gt (ha a e)
  · rw [hll]; exact strs_far hs hgr hr0 (rep_no_str r A c1 A2 c2)
theorem repV_split (r : RepV) (v1 v2 : Value) : repV r v1 v2 = [.int .i64 r.e, .int .i64 r.i, .int .i64 r.k, .int .i64 r.n] ++ (digV r.d ++ [v1, v2]) := rfl
theorem repV_36 (r : RepV) (v1 v2 : Value) (hd : r.d.length = 32) : (repV r v1 v2)[36]? = some v1 := by
  show (digV r.d ++ [v1, v2])[32]? = some v1
  rw [List.getElem?_append_right (by rw [digV_length, hd]; exact Nat.le_refl _), digV_length, hd]; rfl
theorem repV_37 (r : RepV) (v1 v2 : Value) (hd : r.d.length = 32) : (repV r v1 v2)[37]? = some v2 := by
  show (digV r.d ++ [v1, v2])[33]? = some v2
  rw [List.getElem?_append_right (by rw [digV_length, hd]; omega), digV_length, hd]; rfl
theorem repV_set36 (r : RepV) (v1 v2 u : Value) (hd : r.d.length = 32) : (repV r v1 v2).set 36 u = repV r u v2 := by
  show Value.int .i64 r.e :: _ :: _ :: _ :: (digV r.d ++ [v1, v2]).set 32 _ = _
  rw [List.set_append_right _ _ (by rw [digV_length, hd]; exact Nat.le_refl _), digV_length, hd]; rfl
theorem repV_set37 (r : RepV) (v1 v2 u : Value) (hd : r.d.length = 32) : (repV r v1 v2).set 37 u = repV r v1 u := by
  show Value.int .i64 r.e :: _ :: _ :: _ :: (digV r.d ++ [v1, v2]).set 33 _ = _
  rw [List.set_append_right _ _ (by rw [digV_length, hd]; omega), digV_length, hd]; rfl
theorem there_digR {w : World} {g : Nat} {r : RepV} {v1 v2 : Value} {D : List UInt8} (h : w.heap[g]? = some (.cells (repV r v1 v2).toArray 37 (0, 0))) (hd : r.d.length = 32) (hD : D.length = 32) : w.there g 4 (digV D).toArray.size := fun j hj => by
  have hj32 : j < 32 := by simpa [digV_length, hD] using hj
  refine ⟨?_, frozen_of_row _ _ _ _ _ h⟩
  rw [cell_of_row _ _ (4 + j) _ _ _ h, List.getElem?_toArray, List.getElem?_eq_getElem (by rw [repV_length _ _ _ hd]; omega)]; rfl
theorem heap_digR {w : World} {g : Nat} {r : RepV} {v1 v2 : Value} {D : List UInt8} (h : w.heap[g]? = some (.cells (repV r v1 v2).toArray 37 (0, 0))) (hd : r.d.length = 32) (hD : D.length = 32) :
    (w.setCells g 4 (digV D)).heap[g]? = some (.cells (repV { r with d := D } v1 v2).toArray 37 (0, 0)) := by
  rw [repV_split] at h
  rw [heap_setCells_at g 37 (digV D) 4 w _ (digV r.d) _ h rfl (by rw [digV_length, digV_length, hd, hD])]
  rfl
theorem digD_bad {s : List UInt8} (h : ¬ digOk s = true) : digD s = zeroD := by unfold digD; rw [if_neg h]

set_option maxHeartbeats 4000000 in
set_option maxRecDepth 100000 in
theorem say_calls (r : RepV) (g : Nat) (k : Nat) (s : ByteArray) (w0 w : World) (h0 : Below w0.heap.size w0 w) (hE : LEnv w0) (hx : RepIn w g r) (hs : s.size ≤ 8388608) (hk : k ≤ 5) :
    Calls Tryz.prog 39 #[.pointer (some ⟨g, 0, none⟩), .int .i64 k, .string s] w fun e w' => e = .returned (.int .i64 (sayV r k s.data.toList).2) ∧ ((sayV r k s.data.toList).2 = 0 → RepIn w' g (sayV r k s.data.toList).1) ∧ w.grownBy w' (some g) := by
  have hkc : k = 0 ∨ k = 1 ∨ k = 2 ∨ k = 3 ∨ k = 4 ∨ k = 5 := by omega
  have HN := Lib.hid (count_calls s w hs (hE.below h0).env)
  have HL := Lib.hid (list_calls s w hs (hE.below h0))
  have HD := Lib.hid (data_calls s w hs)
  have HG := Lib.hid (digRead_calls s w (by omega))
  obtain ⟨⟨A, c1, A2, c2, hrow, hcells, hap, hstr, hcap⟩, hd⟩ := hx
  have HROW := Lib.hid hrow
  have hlt := lt_of_block hrow
  have HCELLS := Lib.hid hcells
  have HAP := Lib.hid hap
  have HSTR := Lib.hid hstr
  have HCAP := Lib.hid hcap
  clear hrow hk hcells hap hstr hcap hE h0
  rcases hkc with rfl | rfl | rfl | rfl | rfl | rfl
  · go_enter Tryz.func39, Tryz.ntmps39
    go_wp2_with (first | (go_at_call 57; refine HN.out.mono ?_; rintro e w1 ⟨rfl, hb1⟩; have hr1 := (hb1.block g hlt).trans HROW.out; have cc1 : w1.cell? ⟨g, 1, none⟩ = some (.int .i64 r.i) := (cell_of_row _ _ 1 _ _ _ hr1).trans rfl; have f1 := frozen_of_row _ _ 1 _ _ hr1))
    go_ret
    have hst := repIn_set (j := 1) (r' := (sayV r 0 s.data.toList).1) (u := .int .i64 (countV s.data.toList).1) hb1 hlt hr1 HCELLS.out HAP.out HSTR.out HCAP.out hd rfl rfl rfl
    exact ⟨rfl, fun _ => hst.1, hst.2⟩
  · go_enter Tryz.func39, Tryz.ntmps39
    go_wp2_with (first | (go_at_call 57; refine HN.out.mono ?_; rintro e w1 ⟨rfl, hb1⟩; have hr1 := (hb1.block g hlt).trans HROW.out; have cc1 : w1.cell? ⟨g, 2, none⟩ = some (.int .i64 r.k) := (cell_of_row _ _ 2 _ _ _ hr1).trans rfl; have f1 := frozen_of_row _ _ 2 _ _ hr1))
    go_ret
    have hst := repIn_set (j := 2) (r' := (sayV r 1 s.data.toList).1) (u := .int .i64 (countV s.data.toList).1) hb1 hlt hr1 HCELLS.out HAP.out HSTR.out HCAP.out hd rfl rfl rfl
    exact ⟨rfl, fun _ => hst.1, hst.2⟩
  · go_enter Tryz.func39, Tryz.ntmps39
    go_wp2_with (first | (go_at_call 57; refine HN.out.mono ?_; rintro e w1 ⟨rfl, hb1⟩; have hr1 := (hb1.block g hlt).trans HROW.out; have cc1 : w1.cell? ⟨g, 3, none⟩ = some (.int .i64 r.n) := (cell_of_row _ _ 3 _ _ _ hr1).trans rfl; have f1 := frozen_of_row _ _ 3 _ _ hr1))
    go_ret
    have hst := repIn_set (j := 3) (r' := (sayV r 2 s.data.toList).1) (u := .int .i64 (countV s.data.toList).1) hb1 hlt hr1 HCELLS.out HAP.out HSTR.out HCAP.out hd rfl rfl rfl
    exact ⟨rfl, fun _ => hst.1, hst.2⟩
  · have hsy : Hid (sayV r 3 s.data.toList = if digOk s.data.toList = true ∧ digD s.data.toList ≠ zeroD then ({ r with d := digD s.data.toList }, 0) else (r, 3)) := rfl
    have hbad : Hid (¬ digOk s.data.toList = true → digD s.data.toList = zeroD) := fun h => digD_bad h
    have hdl := digD_length s.data.toList
    have hzl := zeroD_length
    unfold DigPost at HG
    generalize digD s.data.toList = D at *
    have HDL := Lib.hid hdl
    have HSZ2 : Hid ((Tryz.prog.info? 23).map (·.size) = some (digV D).toArray.size) := by show _ = _; rw [size23]; simp [digV_length, hdl]
    have H1 := Lib.hid (digV_one D)
    by_cases hz : D = zeroD
    · have HQ : Hid ((D == zeroD) = true) := by show _ = _; rw [hz]; simp
      have HV : Hid ((sayV r 3 s.data.toList).2 = 3) := by show _ = _; rw [hsy.out, if_neg (fun h => h.2 hz)]
      clear hz
      generalize hE : (if digOk s.data.toList then (0 : Int) else 3) = E at *
      clear hE
      go_enter Tryz.func39, Tryz.ntmps39
      go_upto_if 62 with (first | (go_at_call 47; refine HG.out.mono ?_; rintro e w1 ⟨rfl, hb1⟩; have HR1 := Lib.hid ((hb1.block g hlt).trans HROW.out); have HTH := Lib.hid (there_digR (D := D) HR1.out hd HDL.out); have HR2 := Lib.hid (heap_digR (D := D) HR1.out hd HDL.out); have HG2 := Lib.hid (grown_setCells (digV D) 4 w1 (grown_of_below hb1 g)); clear hb1) | (refine wpList_store_mid rfl 23 _ _ rfl g 4 (digV D).toArray rfl rfl HTH.out HSZ2.out H1.out ?_) | (with_reducible refine wpList_build_dig ?_) | ((with_reducible apply wpList_load_dig g 4 D); rfl; exact (repAt_of (rangeAt_of_row HR2.out) HDL.out).d; exact HDL.out))
      rw [HQ.out]
      go_wp2_with fail
      go_ret
      exact ⟨(by rw [HV.out]; rfl), fun h => (by rw [HV.out] at h; cases h), HG2.out⟩
    · have HQ : Hid ((D == zeroD) = false) := by show _ = _; rw [beq_eq_false_iff_ne]; exact hz
      have hok : digOk s.data.toList = true := Classical.byContradiction fun h => hz (hbad.out h)
      have HV : Hid (sayV r 3 s.data.toList = ({ r with d := D }, 0)) := by show _ = _; rw [hsy.out, if_pos ⟨hok, hz⟩]
      rw [if_pos hok] at HG
      clear hz hok
      go_enter Tryz.func39, Tryz.ntmps39
      go_upto_if 62 with (first | (go_at_call 47; refine HG.out.mono ?_; rintro e w1 ⟨rfl, hb1⟩; have HR1 := Lib.hid ((hb1.block g hlt).trans HROW.out); have HTH := Lib.hid (there_digR (D := D) HR1.out hd HDL.out); have HR2 := Lib.hid (heap_digR (D := D) HR1.out hd HDL.out); have HG2 := Lib.hid (grown_setCells (digV D) 4 w1 (grown_of_below hb1 g)); clear hb1) | (refine wpList_store_mid rfl 23 _ _ rfl g 4 (digV D).toArray rfl rfl HTH.out HSZ2.out H1.out ?_) | (with_reducible refine wpList_build_dig ?_) | ((with_reducible apply wpList_load_dig g 4 D); rfl; exact (repAt_of (rangeAt_of_row HR2.out) HDL.out).d; exact HDL.out))
      rw [HQ.out]
      go_wp2_with fail
      go_ret
      rw [HV.out]
      exact ⟨rfl, fun _ => ⟨⟨A, c1, A2, c2, HR2.out, cells_far HCELLS.out HG2.out (fun a e => Nat.ne_of_gt (HAP.out a e)), HAP.out, strs_far HSTR.out HG2.out HROW.out (rep_no_str r A c1 A2 c2), HCAP.out⟩, HDL.out⟩, HG2.out⟩
  · have hcase : Hid (((dataV s.data.toList).1 = [] → (sayV r 4 s.data.toList).2 = 3) ∧ ((dataV s.data.toList).1 ≠ [] → (dataV s.data.toList).2 = 0 ∧ sayV r 4 s.data.toList = ({ r with b := (dataV s.data.toList).1 }, 0))) := by
      have e : sayV r 4 s.data.toList = if s.data.toList.head? = some 120 ∧ hexOk s.data.toList.tail = true ∧ s.data.toList.tail ≠ [] then ({ r with b := hexP s.data.toList.tail }, 0) else (r, 3) := rfl
      show _ ∧ _
      rw [e]
      unfold dataV
      by_cases hc : s.data.toList.head? = some 120 ∧ hexOk s.data.toList.tail = true
      · rw [if_pos hc]
        by_cases ht : s.data.toList.tail = []
        · rw [if_neg (fun h => h.2.2 ht)]
          exact ⟨fun _ => rfl, fun h => absurd (by simp only; rw [ht]; rfl) h⟩
        · rw [if_pos ⟨hc.1, hc.2, ht⟩]
          exact ⟨fun h => absurd h (hexP_ne hc.2 ht), fun _ => ⟨rfl, rfl⟩⟩
      · rw [if_neg hc, if_neg (fun h => hc ⟨h.1, h.2.1⟩)]
        exact ⟨fun _ => rfl, fun h => absurd rfl h⟩
    generalize (dataV s.data.toList).1 = db at *
    generalize (dataV s.data.toList).2 = de at *
    by_cases hz : db = []
    · have HV : Hid ((sayV r 4 s.data.toList).2 = 3) := hcase.out.1 hz
      subst hz
      go_enter Tryz.func39, Tryz.ntmps39
      go_wp2_with (first | (go_at_call 48; refine HD.out.mono ?_; rintro e w1 ⟨A3, c3, rfl, hc3, hb1, hlow⟩; have HR1 := Lib.hid ((hb1.block g hlt).trans HROW.out); have cc1 : w1.cell? ⟨g, 36, none⟩ = some (.slice A r.b.length c1) := (by rw [cell_of_row _ _ 36 _ _ _ HR1.out, List.getElem?_toArray]; exact repV_36 r _ _ hd); have f1 := frozen_of_row _ _ 36 _ _ HR1.out; have HB1 := Lib.hid hb1; clear hb1 hc3 hlow))
      go_ret
      exact ⟨(by rw [HV.out]; rfl), fun h => (by rw [HV.out] at h; cases h), grown_set (grown_of_below HB1.out g) 36 _⟩
    · obtain ⟨rfl, hv⟩ := hcase.out.2 hz
      have HV := Lib.hid hv
      have hq : ((db.length : Int) == 0) = false := by rw [beq_eq_false_iff_ne]; have := List.length_pos_iff.2 hz; omega
      have hq2 : (db.length == 0) = false := by rw [beq_eq_false_iff_ne]; have := List.length_pos_iff.2 hz; omega
      clear hcase hv
      go_enter Tryz.func39, Tryz.ntmps39
      go_wp2_with (first | (go_at_call 48; refine HD.out.mono ?_; rintro e w1 ⟨A3, c3, rfl, hc3, hb1, hlow⟩; have HR1 := Lib.hid ((hb1.block g hlt).trans HROW.out); have cc1 : w1.cell? ⟨g, 36, none⟩ = some (.slice A r.b.length c1) := (by rw [cell_of_row _ _ 36 _ _ _ HR1.out, List.getElem?_toArray]; exact repV_36 r _ _ hd); have f1 := frozen_of_row _ _ 36 _ _ HR1.out; have HB1 := Lib.hid hb1; have HC3 := Lib.hid hc3; have HLOW := Lib.hid hlow; clear hb1 hc3 hlow))
      go_ret
      have hgr := grown_set (grown_of_below HB1.out g) 36 (.slice A3 db.length c3)
      rw [HV.out]
      refine ⟨rfl, fun _ => ⟨⟨A3, c3, A2, c2, ?_, ?_, fun a e => by have := HLOW.out a e; omega, strs_far HSTR.out hgr HROW.out (rep_no_str r A c1 A2 c2), HCAP.out⟩, hd⟩, hgr⟩
      · rw [heap_setCell_same w1 g 36 _ 37 _ HR1.out, List.setIfInBounds_toArray]
        show some (Obj.cells ((repV r _ _).set 36 _).toArray 37 (0, 0)) = _
        rw [repV_set36 r _ _ _ hd]; rfl
      · exact cells_far HC3.out (grown_set ⟨rfl, rfl, rfl, Nat.le_refl _, fun _ _ _ => rfl⟩ 36 _) fun a e => by have := HLOW.out a e; omega
  · have hv : Hid (((sayV r 5 s.data.toList).2 = listE s.data.toList) ∧ ((sayV r 5 s.data.toList).2 = 0 → (sayV r 5 s.data.toList).1 = { r with l := listV s.data.toList })) := by
      have e : sayV r 5 s.data.toList = if (splitC 44 s.data.toList).all tagOk = true then ({ r with l := splitC 44 s.data.toList }, 0) else (r, 3) := rfl
      show _ ∧ _
      rw [e]
      unfold listE listV
      by_cases h : (splitC 44 s.data.toList).all tagOk = true
      · rw [if_pos h, if_pos h, if_pos h]; exact ⟨rfl, fun _ => rfl⟩
      · rw [if_neg h, if_neg h]; exact ⟨rfl, fun h => absurd h (by show (3 : Int) ≠ 0; decide)⟩
    generalize listV s.data.toList = LV at *
    generalize listE s.data.toList = LE at *
    go_enter Tryz.func39, Tryz.ntmps39
    go_wp2_with (first | (go_at_call 60; refine HL.out.mono ?_; rintro e w1 ⟨A3, c3, rfl, hs3, hcap3, hb1⟩; have HR1 := Lib.hid ((hb1.block g hlt).trans HROW.out); have cc1 : w1.cell? ⟨g, 37, none⟩ = some (.slice A2 r.l.length c2) := (by rw [cell_of_row _ _ 37 _ _ _ HR1.out, List.getElem?_toArray]; exact repV_37 r _ _ hd); have f1 := frozen_of_row _ _ 37 _ _ HR1.out; have HB1 := Lib.hid hb1; have HS3 := Lib.hid hs3; have HC3 := Lib.hid hcap3; clear hb1 hs3 hcap3))
    go_ret
    have hgr := grown_set (grown_of_below HB1.out g) 37 (.slice A3 LV.length c3)
    refine ⟨(by rw [hv.out.1]; rfl), fun h => ?_, hgr⟩
    rw [hv.out.2 h]
    refine ⟨⟨A, c1, A3, c3, ?_, ?_, HAP.out, ?_, HC3.out⟩, hd⟩
    · rw [heap_setCell_same w1 g 37 _ 37 _ HR1.out, List.setIfInBounds_toArray]
      show some (Obj.cells ((repV r _ _).set 37 _).toArray 37 (0, 0)) = _
      rw [repV_set37 r _ _ _ hd]; rfl
    · exact cells_far HCELLS.out hgr fun a e => Nat.ne_of_gt (HAP.out a e)
    · exact strs_far HS3.out (grown_set ⟨rfl, rfl, rfl, Nat.le_refl _, fun _ _ _ => rfl⟩ 37 _) HR1.out (rep_no_str r A c1 A2 c2)
end Go.Proofs.YtjplfkcelkijfaaGreatDoor
/- line.failed. Condition: words of at most 8388608 bytes; what lies in variables. -/
namespace Go.Proofs.YtjplfkcelkijfaaGreatDoor
open Go.RowKit

/-- a reply as a value -/
def RepVal (w : World) (v : Value) (r : RepV) : Prop := ∃ A c1 A2 c2, v = .agg (repS r A c1 A2 c2).toArray ∧ CellsIn w A (Lib.byteCells r.b) ∧ StrsIn w (.slice A2 r.l.length c2) r.l ∧ r.l.length ≤ c2
theorem repVal_nil (w : World) (n : Int) : RepVal w (.agg (repV (errRep n) (.slice none 0 0) (.slice none 0 0)).toArray) (errRep n) :=
  ⟨none, 0, none, 0, rfl, fun k v hk => by simp [errRep, Lib.byteCells] at hk, ⟨none, 0, rfl, fun k x hk => by simp [errRep] at hk⟩, Nat.le_refl _⟩
theorem repV_one (r : RepV) (v1 v2 : Value) (h1 : v1.oneCell' = true) (h2 : v2.oneCell' = true) : (repV r v1 v2).toArray.all (·.oneCell') = true := by
  have := digV_one r.d
  simp only [List.all_toArray] at this ⊢
  unfold repV
  simp only [List.all_cons, List.all_append, List.all_nil, this, h1, h2]; rfl
/-- a whole reply is stored into a variable -/
theorem wpList_store_rep {ops : Array Oper} {rest : List Oper} {a : Act} {w : World} {Q : Exit → Act → World → Prop} {d : Option Tmp} {x y : Tmp} {ty : TypeId} {pos : String} {after : Array Edge}
    (g : Nat) (cs c0 : List Value) (hf : cs.length = 38) (hf0 : c0.length = 38) (h1 : cs.toArray.all (·.oneCell') = true) (hx : a.tmps.getD x undef = .pointer (some ⟨g, 0, none⟩)) (hy : a.tmps.getD y undef = .agg cs.toArray)
    (hg : w.heap[g]? = some (.cells c0.toArray 37))
    (h : wpList Tryz.prog ops Q rest (a.put d undef) (w.setRow g cs.toArray)) :
    wpList Tryz.prog ops Q ({ dst := d, op := .store 37 (.tmp x) (.tmp y), type := ty, pos := pos, after := after, guard := none } :: rest) a w :=
  wpList_store_row rfl 37 (.tmp x) (.tmp y) rfl g cs.toArray hx hy 37 c0.toArray hg (by rw [size37]; simp [hf]) (by simp [hf, hf0]) h1 h
theorem wpList_load_repG {ops : Array Oper} {rest : List Oper} {a : Act} {w : World} {Q : Exit → Act → World → Prop} {d : Option Tmp} {x : Tmp} {ty : TypeId} {pos : String} {after : Array Edge} {gd : Option (Nat × Bool)}
    (g : Nat) (cs : List Value) (hx : a.tmps.getD x undef = .pointer (some ⟨g, 0, none⟩)) (hc : w.rangeAt g 0 cs) (hf : cs.length = 38)
    (hw : Region.wanted { dst := d, op := .load 37 (.tmp x), type := ty, pos := pos, after := after, guard := gd } (yielded ops a.tmps) = true)
    (h : wpList Tryz.prog ops Q rest (a.put d (.agg cs.toArray)) w) :
    wpList Tryz.prog ops Q ({ dst := d, op := .load 37 (.tmp x), type := ty, pos := pos, after := after, guard := gd } :: rest) a w := by
  refine wpList_valG hw (.agg cs.toArray) ?_ h
  have hx' : a.eval (.tmp x) = .pointer (some ⟨g, 0, none⟩) := hx
  obtain ⟨fs, hu⟩ := Go.Proofs.YtjplfkcelkijfaaGreatDoor.u37
  simp only [execOp, hx', Instr.loadAt, Instr.sureAddr, Sem.run_bind, Sem.run_pure, Result.andThen_ok, run_loadVar_mid w g 0 37 cs _ hc hu rfl (by rw [size37, hf])]
theorem results_rep {fn : Func} {p u : Tmp} (h : fn.results = #[.cell p 37, .tmp u]) (tmps : Array Value) (w : World) (g : Nat) (cs : List Value) (x : Value) (hl : cs.length = 38)
    (hp : tmps.getD p undef = .pointer (some ⟨g, 0, none⟩)) (hg : w.heap[g]? = some (.cells cs.toArray 37)) (hx : tmps.getD u undef = x) : (results fn tmps).run Tryz.prog w = .ok (.tuple #[.agg cs.toArray, x]) w := by
  obtain ⟨fs, hu⟩ := Go.Proofs.YtjplfkcelkijfaaGreatDoor.u37
  rw [results_cell_tmp h, hp, hx]
  have h1 : (asAddr (.pointer (some ⟨g, 0, none⟩))).run Tryz.prog w = .ok ⟨g, 0, none⟩ w := by simp [asAddr]
  rw [h1, Result.andThen_ok, run_loadVar_row w g 37 37 cs.toArray (0, 0) _ hg hu rfl (by rw [size37]; simp [hl]), Result.andThen_ok]
abbrev zeroRS : List Value := repV zeroRep (.slice none 0 0) (.slice none 0 0)
theorem zeroRS_length : zeroRS.length = 38 := repV_length _ _ _ zeroD_length
theorem errRS_length (n : Int) : (repV (errRep n) (.slice none 0 0) (.slice none 0 0)).length = 38 := repV_length _ _ _ zeroD_length
set_option maxRecDepth 100000 in
theorem built_err (n : Int) : Tryz.prog.built 37 [(0, .int .i64 n)] = some (repV (errRep n) (.slice none 0 0) (.slice none 0 0)).toArray := by kernel_rfl
set_option maxRecDepth 100000 in
theorem wpList_build_err {ops : Array Oper} {rest : List Oper} {a : Act} {w : World} {Q : Exit → Act → World → Prop} {d : Option Tmp} {x : Tmp} {ty : TypeId} {pos : String} {after : Array Edge}
    (n : Int) (hx : a.tmps.getD x undef = .int .i64 n) (h : wpList Tryz.prog ops Q rest (a.put d (.agg (repV (errRep n) (.slice none 0 0) (.slice none 0 0)).toArray)) w) :
    wpList Tryz.prog ops Q ({ dst := d, op := .build 37 #[(0, .tmp x)], type := ty, pos := pos, after := after, guard := none } :: rest) a w := by
  have hx' : a.eval (.tmp x) = .int .i64 n := hx
  have e : Tryz.prog.built 37 ((#[(0, Operand.tmp x)] : Array (Nat × Operand)).map fun (i, y) => (i, a.eval y)).toList = some (repV (errRep n) (.slice none 0 0) (.slice none 0 0)).toArray := by
    have h1 : ((#[(0, Operand.tmp x)] : Array (Nat × Operand)).map fun (i, y) => (i, a.eval y)).toList = [(0, .int .i64 n)] := by simp [hx']
    rw [h1]; exact built_err n
  exact wpList_build rfl 37 _ rfl (by rw [e]; rfl) (by rw [e]; exact h)
set_option maxRecDepth 100000 in
theorem built_zrep : Tryz.prog.built 37 [] = some zeroRS.toArray := by kernel_rfl
set_option maxRecDepth 100000 in
theorem wpList_build_zrep {ops : Array Oper} {rest : List Oper} {a : Act} {w : World} {Q : Exit → Act → World → Prop} {d : Option Tmp} {ty : TypeId} {pos : String} {after : Array Edge}
    (h : wpList Tryz.prog ops Q rest (a.put d (.agg zeroRS.toArray)) w) :
    wpList Tryz.prog ops Q ({ dst := d, op := .build 37 #[], type := ty, pos := pos, after := after, guard := none } :: rest) a w := by
  have e : Tryz.prog.built 37 ((#[] : Array (Nat × Operand)).map fun (i, y) => (i, a.eval y)).toList = some zeroRS.toArray := by
    have h1 : ((#[] : Array (Nat × Operand)).map fun (i, y) => (i, a.eval y)).toList = [] := by simp
    rw [h1]; exact built_zrep
  exact wpList_build rfl 37 _ rfl (by rw [e]; rfl) (by rw [e]; exact h)
set_option maxHeartbeats 2000000 in
set_option maxRecDepth 100000 in
theorem failed_one (x : List UInt8) (y : List UInt8) (a : Option Addr) (cap : Nat) (w : World) (hst : StrsIn w (.slice a (([y] : List (List UInt8)).length + 1) cap) (x :: [y])) (hwl : ∀ u ∈ x :: [y], u.length ≤ 8388608) (hwn : ([y] : List (List UInt8)).length ≤ 8388608) (hE : Env w) :
    Calls Tryz.prog 35 #[.slice a (([y] : List (List UInt8)).length + 1) cap] w fun e w' => ∃ v, e = .returned (.tuple #[v, .int .i64 (failedV [y]).2]) ∧ RepVal w' v (failedV [y]).1 ∧ Below w.heap.size w w' := by
  have hb0 : Below w.heap.size w (w.alloc (.cells zeroRS.toArray 37)) := (Below.refl _ _).alloc (Nat.le_refl _) _
  have hr0 : (w.alloc (.cells zeroRS.toArray 37)).heap[w.heap.size]? = some (.cells zeroRS.toArray 37 (0, 0)) := World.alloc_heap_new _ _
  have hE0 := hE.below hb0
  have hst0 := hst.below hb0
  have hwi : (([y] : List (List UInt8)).length : Int) ≤ 8388608 := by omega
  have HWL := Lib.hid hwl
  clear hE hst hwl hwn
  obtain ⟨a', c', e, hc⟩ := hst0
  obtain ⟨g, o, rfl, hy⟩ := hc 1 y rfl
  injection e with e _ _
  subst e
  have hyl : y.length ≤ 8388608 := HWL.out y (by simp)
  have hcv : failedV [y] = (errRep (countV y).1, (countV y).2) := rfl
  rw [hcv]
  have HCN := Lib.hid (count_calls ⟨y.toArray⟩ (w.alloc (.cells zeroRS.toArray 37)) (by show y.toArray.size ≤ _; simpa using hyl) hE0)
  rw [show (⟨y.toArray⟩ : ByteArray).data.toList = y by simp] at HCN
  generalize (countV y).1 = n at *
  generalize (countV y).2 = er at *
  have HR0 := Lib.hid hr0
  have HB0 := Lib.hid hb0
  clear hcv hc hE0 hr0 hb0
  go_enter Tryz.func35, Tryz.ntmps35
  go_upto_region 1 with (fail)
  change Code.wp _ _ _ _ (w.alloc (.cells zeroRS.toArray 37))
  generalize w.alloc (.cells zeroRS.toArray 37) = w0 at *
  go_wp2_with (first | (go_at_call 57; refine HCN.out.mono ?_; rintro e w1 ⟨rfl, hb1⟩; have HR1 := Lib.hid ((hb1.block _ (lt_of_block HR0.out)).trans HR0.out); have HB1 := Lib.hid (HB0.out.trans (hb1.mono HB0.out.size)); clear hb1) | ((with_reducible apply wpList_build_err); rfl) | ((with_reducible apply wpList_store_rep w.heap.size (c0 := zeroRS)); (case hy => rfl); (case hx => rfl); (case hf => exact errRS_length _); (case hf0 => exact zeroRS_length); (case h1 => exact repV_one _ _ _ rfl rfl); (case hg => exact HR1.out)))
  refine bodyPost_ret_by (results_rep rfl _ _ w.heap.size (repV (errRep n) (.slice none 0 0) (.slice none 0 0)) _ (errRS_length n) rfl (setRow_heap _ _ _ (repV (errRep n) (.slice none 0 0) (.slice none 0 0)).toArray _ _ HR1.out) rfl) rfl ?_
  exact ⟨_, rfl, repVal_nil _ n, below_setRow HB1.out (Nat.le_refl _) _⟩
set_option maxHeartbeats 2000000 in
set_option maxRecDepth 100000 in
theorem failed_none (x : List UInt8) (a : Option Addr) (cap : Nat) (w : World) (hst : StrsIn w (.slice a (([] : List (List UInt8)).length + 1) cap) (x :: [])) (hwl : ∀ y ∈ x :: [], y.length ≤ 8388608) (hwn : ([] : List (List UInt8)).length ≤ 8388608) (hE : Env w) :
    Calls Tryz.prog 35 #[.slice a (([] : List (List UInt8)).length + 1) cap] w fun e w' => ∃ v, e = .returned (.tuple #[v, .int .i64 (failedV []).2]) ∧ RepVal w' v (failedV []).1 ∧ Below w.heap.size w w' := by
  have hb0 : Below w.heap.size w (w.alloc (.cells zeroRS.toArray 37)) := (Below.refl _ _).alloc (Nat.le_refl _) _
  have hr0 : (w.alloc (.cells zeroRS.toArray 37)).heap[w.heap.size]? = some (.cells zeroRS.toArray 37 (0, 0)) := World.alloc_heap_new _ _
  have hE0 := hE.below hb0
  have hst0 := hst.below hb0
  have hwi : (([] : List (List UInt8)).length : Int) ≤ 8388608 := by omega
  have HWL := Lib.hid hwl
  clear hE hst hwl hwn
  have HB0 := Lib.hid hb0
  have HR0 := Lib.hid hr0
  clear hE0 hst0 hb0 hr0
  go_enter Tryz.func35, Tryz.ntmps35
  go_upto_region 1 with (fail)
  change Code.wp _ _ _ _ (w.alloc (.cells zeroRS.toArray 37))
  generalize w.alloc (.cells zeroRS.toArray 37) = w0 at *
  go_wp2_with (first | (with_reducible refine wpList_build_zrep ?_) | ((with_reducible apply wpList_store_rep w.heap.size (c0 := zeroRS)); (case hy => rfl); (case hx => rfl); (case hf => exact zeroRS_length); (case hf0 => exact zeroRS_length); (case h1 => exact repV_one _ _ _ rfl rfl); (case hg => exact HR0.out)))
  refine bodyPost_ret_by (results_rep rfl _ _ w.heap.size zeroRS _ zeroRS_length rfl (setRow_heap _ _ _ zeroRS.toArray _ _ HR0.out) rfl) rfl ?_
  exact ⟨_, rfl, repVal_nil _ 0, below_setRow HB0.out (Nat.le_refl _) _⟩
set_option maxHeartbeats 2000000 in
set_option maxRecDepth 100000 in
theorem failed_more (x : List UInt8) (y z : List UInt8) (ws : List (List UInt8)) (a : Option Addr) (cap : Nat) (w : World) (hst : StrsIn w (.slice a (((y :: z :: ws) : List (List UInt8)).length + 1) cap) (x :: (y :: z :: ws))) (hwl : ∀ u ∈ x :: (y :: z :: ws), u.length ≤ 8388608) (hwn : ((y :: z :: ws) : List (List UInt8)).length ≤ 8388608) (hE : Env w) :
    Calls Tryz.prog 35 #[.slice a (((y :: z :: ws) : List (List UInt8)).length + 1) cap] w fun e w' => ∃ v, e = .returned (.tuple #[v, .int .i64 (failedV (y :: z :: ws)).2]) ∧ RepVal w' v (failedV (y :: z :: ws)).1 ∧ Below w.heap.size w w' := by
  have hb0 : Below w.heap.size w (w.alloc (.cells zeroRS.toArray 37)) := (Below.refl _ _).alloc (Nat.le_refl _) _
  have hr0 : (w.alloc (.cells zeroRS.toArray 37)).heap[w.heap.size]? = some (.cells zeroRS.toArray 37 (0, 0)) := World.alloc_heap_new _ _
  have hE0 := hE.below hb0
  have hst0 := hst.below hb0
  have hwi : (((y :: z :: ws) : List (List UInt8)).length : Int) ≤ 8388608 := by omega
  have HWL := Lib.hid hwl
  clear hE hst hwl hwn
  have HB0 := Lib.hid hb0
  have HR0 := Lib.hid hr0
  have hwi2 : (ws.length : Int) + 2 ≤ 8388608 := by simp only [List.length_cons] at hwi; omega
  have hq : (((ws.length : Int) + 1 + 1 + 1) != 2) = true := by rw [bne_iff_ne]; omega
  clear hE0 hst0 hb0 hr0 hwi
  simp only [List.length_cons]
  go_enter Tryz.func35, Tryz.ntmps35
  go_upto_region 1 with (fail)
  change Code.wp _ _ _ _ (w.alloc (.cells zeroRS.toArray 37))
  generalize w.alloc (.cells zeroRS.toArray 37) = w0 at *
  go_wp2_with (first | (with_reducible refine wpList_build_zrep ?_) | ((with_reducible apply wpList_store_rep w.heap.size (c0 := zeroRS)); (case hy => rfl); (case hx => rfl); (case hf => exact zeroRS_length); (case hf0 => exact zeroRS_length); (case h1 => exact repV_one _ _ _ rfl rfl); (case hg => exact HR0.out)))
  refine bodyPost_ret_by (results_rep rfl _ _ w.heap.size zeroRS _ zeroRS_length rfl (setRow_heap _ _ _ zeroRS.toArray _ _ HR0.out) rfl) rfl ?_
  exact ⟨_, rfl, repVal_nil _ 0, below_setRow HB0.out (Nat.le_refl _) _⟩
theorem failed_calls (x : List UInt8) (ws : List (List UInt8)) (a : Option Addr) (cap : Nat) (w : World) (hst : StrsIn w (.slice a (ws.length + 1) cap) (x :: ws)) (hwl : ∀ y ∈ x :: ws, y.length ≤ 8388608) (hwn : ws.length ≤ 8388608) (hE : Env w) :
    Calls Tryz.prog 35 #[.slice a (ws.length + 1) cap] w fun e w' => ∃ v, e = .returned (.tuple #[v, .int .i64 (failedV ws).2]) ∧ RepVal w' v (failedV ws).1 ∧ Below w.heap.size w w' := by
  rcases ws with _ | ⟨y, _ | ⟨z, t⟩⟩
  · exact failed_none x a cap w hst hwl hwn hE
  · exact failed_one x y a cap w hst hwl hwn hE
  · exact failed_more x y z t a cap w hst hwl hwn hE
end Go.Proofs.YtjplfkcelkijfaaGreatDoor

/- line.Answer. Condition: a line of at most 8388608 bytes; what lies in variables. -/
namespace Go.Proofs.YtjplfkcelkijfaaGreatDoor
open Go.RowKit

theorem index_eq (b : UInt8) (l : List UInt8) : Lib.indexByte (b :: l) 61 = if b == 61 then 0 else if Lib.indexByte l 61 == -1 then -1 else Lib.indexByte l 61 + 1 := rfl
theorem cutE_eq (b : UInt8) (l : List UInt8) : cutE (b :: l) = if b = 61 then some ([], l) else match cutE l with | none => none | some (a, r) => some (b :: a, r) := rfl
theorem cutE_index : ∀ l : List UInt8, cutE l = if 0 ≤ Lib.indexByte l 61 then some (l.take (Lib.indexByte l 61).toNat, l.drop ((Lib.indexByte l 61).toNat + 1)) else none
  | [] => rfl
  | b :: l => by
    have ih := cutE_index l
    have hge := Lib.indexByte_ge l 61
    by_cases hb : b = 61
    · have e : Lib.indexByte (b :: l) 61 = 0 := by rw [index_eq, if_pos (by simpa using hb)]
      rw [e, cutE_eq, if_pos hb]; rfl
    · by_cases h : Lib.indexByte l 61 = -1
      · have e : Lib.indexByte (b :: l) 61 = -1 := by rw [index_eq, if_neg (by simpa using hb), if_pos (by simpa using h)]
        rw [e, cutE_eq, if_neg hb, ih, h]; rfl
      · have e : Lib.indexByte (b :: l) 61 = Lib.indexByte l 61 + 1 := by rw [index_eq, if_neg (by simpa using hb), if_neg (by simpa using h)]
        rw [if_pos (show 0 ≤ Lib.indexByte l 61 by omega)] at ih
        obtain ⟨o, ho⟩ : ∃ o : Nat, Lib.indexByte l 61 = o := ⟨(Lib.indexByte l 61).toNat, by omega⟩
        rw [e, cutE_eq, if_neg hb, ih, ho, if_pos (by omega), show ((o : Int) + 1).toNat = o + 1 by omega, Int.toNat_natCast]; rfl
theorem index_one61 : ∀ l : List UInt8, Lib.index l [61] = Lib.indexByte l 61
  | [] => rfl
  | b :: l => by
    have e : Lib.index (b :: l) [61] = if ([61] : List UInt8).isPrefixOf (b :: l) then 0 else if Lib.index l [61] == -1 then -1 else Lib.index l [61] + 1 := rfl
    rw [e, index_one61 l, index_eq]
    by_cases hb : b = 61
    · subst hb; rfl
    · rw [if_neg (by simpa [List.isPrefixOf] using fun h : (61 : UInt8) = b => hb h.symm), if_neg (show ¬ (b == 61) = true by simpa using hb)]
theorem cut_E (x : List UInt8) : Lib.cut x [61] = match cutE x with | none => (x, [], false) | some p => (p.1, p.2, true) := by
  unfold Lib.cut
  rw [cutE_index, index_one61]
  by_cases h : 0 ≤ Lib.indexByte x 61
  · rw [if_pos h, if_pos h]; rfl
  · rw [if_neg h, if_neg h]
theorem has_E (x : List UInt8) : decide (0 ≤ Lib.indexByte x 61) = (cutE x).isSome := by
  rw [cutE_index]
  by_cases h : 0 ≤ Lib.indexByte x 61
  · rw [if_pos h, decide_eq_true h]; rfl
  · rw [if_neg h, decide_eq_false h]; rfl
/-- a word cut at its first = -/
theorem cutw_calls (x : List UInt8) (m : Int) (w : World) (hx : x.length ≤ 8388608) (hm : w.cell? ⟨0, 0, none⟩ = some (.int .i64 m)) :
    Calls Tryz.prog 36 #[.string ⟨x.toArray⟩, .string ⟨#[61]⟩] w fun e w' => (∃ key v f, e = .returned (.tuple #[.string ⟨key.toArray⟩, .string ⟨v.toArray⟩, .bool f]) ∧ (∀ p, cutE x = some p → key = p.1 ∧ v = p.2)) ∧ Below w.heap.size w w' := by
  refine (Tryz.strings_Cut ⟨x.toArray⟩ ⟨#[61]⟩ m w (by show x.toArray.size < _; simp; omega) hm).mono ?_
  rintro e w' ⟨rfl, nq, rfl⟩
  refine ⟨⟨_, _, _, rfl, fun p hp => ?_⟩, below_drewN (Below.refl _ _) nq⟩
  rw [show (⟨x.toArray⟩ : ByteArray).data.toList = x by simp, show (⟨#[61]⟩ : ByteArray).data.toList = [61] from rfl, cut_E, hp]
  exact ⟨rfl, rfl⟩
theorem hasw_calls (x : List UInt8) (w : World) :
    Calls Tryz.prog 37 #[.string ⟨x.toArray⟩, .string ⟨#[61]⟩] w fun e w' => e = .returned (.bool (cutE x).isSome) ∧ w' = w := by
  have h := Tryz.strings_Contains_one ⟨x.toArray⟩ 61 w
  rw [show (⟨x.toArray⟩ : ByteArray).data.toList = x by simp, has_E] at h
  exact h
theorem strs_setRow {w : World} {g : Nat} {v : Value} {l : List (List UInt8)} {cs cs' : List Value} {t : TypeId} (h : StrsIn w v l) (hr : w.heap[g]? = some (.cells cs.toArray t (0, 0))) (hn : ∀ v ∈ cs, ∀ s, v ≠ .string s) : StrsIn (w.setRow g cs'.toArray) v l := by
  obtain ⟨a, cap, e, hc⟩ := h
  refine ⟨a, cap, e, fun k x hk => ?_⟩
  obtain ⟨b, o, ha, hcell⟩ := hc k x hk
  refine ⟨b, o, ha, (cell_setRow_other _ _ _ _ (fun e' => ?_)).trans hcell⟩
  simp only at e'
  subst e'
  rw [Lib.cell_of_heap hr] at hcell
  rw [List.getElem?_toArray] at hcell
  exact hn _ (List.mem_of_getElem? hcell) _ rfl
theorem cells_setRow {w : World} {g : Nat} {A : Option Addr} {cs : List Value} {cs' : Array Value} (h : CellsIn w A cs) (ha : ∀ a, A = some a → a.block ≠ g) : CellsIn (w.setRow g cs') A cs := fun k v hk => by
  obtain ⟨b, o, rfl, hc⟩ := h k v hk
  exact ⟨b, o, rfl, (cell_setRow_other w g cs' ⟨b, o + k, none⟩ (ha _ rfl : b ≠ g)).trans hc⟩
theorem zeroRS_no_str : ∀ v ∈ zeroRS, ∀ s, v ≠ .string s := rep_no_str zeroRep none 0 none 0
theorem failed_d : ∀ ws : List (List UInt8), (failedV ws).1.d = zeroD
  | [_] => rfl
  | [] => rfl
  | _ :: _ :: _ => rfl
theorem failed_b : ∀ ws : List (List UInt8), (failedV ws).1.b = []
  | [_] => rfl
  | [] => rfl
  | _ :: _ :: _ => rfl
theorem repIn_zero (w : World) : RepIn (w.alloc (.cells zeroRS.toArray 37)) w.heap.size zeroRep :=
  { row := ⟨none, 0, none, 0, World.alloc_heap_new _ _, ⟨fun k v hk => by simp [zeroRep, Lib.byteCells] at hk, fun a e => (by cases e), ⟨none, 0, rfl, fun k x hk => by simp [zeroRep] at hk⟩, Nat.le_refl _⟩⟩, d := zeroD_length }
theorem repVal_set {w : World} {g : Nat} {r : RepV} {A : Option Addr} {c1 : Nat} {A2 : Option Addr} {c2 : Nat} {cs' : List Value} (hc : CellsIn w A (Lib.byteCells r.b)) (ha : ∀ a, A = some a → a.block ≠ g) (hs : StrsIn w (.slice A2 r.l.length c2) r.l) (hcap : r.l.length ≤ c2) (hr : w.heap[g]? = some (.cells zeroRS.toArray 37 (0, 0))) :
    RepVal (w.setRow g cs'.toArray) (.agg (repS r A c1 A2 c2).toArray) r := ⟨A, c1, A2, c2, rfl, cells_setRow hc ha, strs_setRow hs hr zeroRS_no_str, hcap⟩
theorem RepIn.below {w w' : World} {g : Nat} {r : RepV} (h : RepIn w g r) (hb : Below w.heap.size w w') : RepIn w' g r := by
  obtain ⟨⟨A, c1, A2, c2, h1, h2, h3, h4, h5⟩, hd⟩ := h
  exact ⟨⟨A, c1, A2, c2, (hb.block g (lt_of_block h1)).trans h1, h2.below hb, h3, h4.below hb, h5⟩, hd⟩
theorem saysV_cons (r : RepV) (n : Nat) (w : List UInt8) (ws : List (List UInt8)) : saysV r n (w :: ws) = match cutE w with
    | none => (zeroRep, 3)
    | some (key, v) => if keyIx key < 6 ∧ n ≤ keyIx key then (if (sayV r (keyIx key) v).2 ≠ 0 then (zeroRep, (sayV r (keyIx key) v).2) else saysV (sayV r (keyIx key) v).1 (keyIx key + 1) ws) else (zeroRep, 3) := rfl
theorem saysV_none {r : RepV} {n : Nat} {w : List UInt8} {ws : List (List UInt8)} (h : cutE w = none) : saysV r n (w :: ws) = (zeroRep, 3) := by rw [saysV_cons, h]
theorem saysV_no {r : RepV} {n : Nat} {w key v : List UInt8} {ws : List (List UInt8)} (h : cutE w = some (key, v)) (hn : ∀ i, n ≤ i → i < 6 → keyL i ≠ key) : saysV r n (w :: ws) = (zeroRep, 3) := by
  rw [saysV_cons, h]
  exact if_neg fun hk => hn _ hk.2 hk.1 (keyL_keyIx hk.1)
theorem saysV_bad {r r2 : RepV} {n q : Nat} {e2 : Int} {w v : List UInt8} {ws : List (List UInt8)} (h : cutE w = some (keyL q, v)) (hq : q < 6) (hn : n ≤ q) (hs : sayV r q v = (r2, e2)) (he : e2 ≠ 0) : saysV r n (w :: ws) = (zeroRep, e2) := by
  have hk := keyIx_key ⟨q, hq⟩
  simp only at hk
  rw [saysV_cons, h]
  simp only [hk]
  rw [if_pos ⟨hq, hn⟩, hs, if_pos he]
theorem saysV_ok {r r2 : RepV} {n q : Nat} {w v : List UInt8} {ws : List (List UInt8)} (h : cutE w = some (keyL q, v)) (hq : q < 6) (hn : n ≤ q) (hs : sayV r q v = (r2, 0)) : saysV r n (w :: ws) = saysV r2 (q + 1) ws := by
  have hk := keyIx_key ⟨q, hq⟩
  simp only at hk
  rw [saysV_cons, h]
  simp only [hk]
  rw [if_pos ⟨hq, hn⟩, hs, if_neg (fun h => h rfl)]
set_option maxRecDepth 100000 in
theorem wpList_index_keys {ops : Array Oper} {rest : List Oper} {a : Act} {w : World} {Q : Exit → Act → World → Prop} {d : Option Tmp} {x y : Tmp} {ty : TypeId} {pos : String} {after : Array Edge} {gd : Option (Nat × Bool)}
    (k : Nat) (hk : k < 6) (hx : a.tmps.getD x undef = .agg keysV) (hy : a.tmps.getD y undef = .int .i64 k)
    (hw : Region.wanted { dst := d, op := .index 76 (.tmp x) (.tmp y), type := ty, pos := pos, after := after, guard := gd } (yielded ops a.tmps) = true)
    (h : wpList Tryz.prog ops Q rest (a.put d (.string ⟨(keyL k).toArray⟩)) w) :
    wpList Tryz.prog ops Q ({ dst := d, op := .index 76 (.tmp x) (.tmp y), type := ty, pos := pos, after := after, guard := gd } :: rest) a w := by
  refine wpList_valG hw (.string ⟨(keyL k).toArray⟩) ?_ h
  have hx' : a.eval (.tmp x) = .agg keysV := hx
  have hy' : a.eval (.tmp y) = .int .i64 k := hy
  simp only [execOp, hx', hy']
  first | exact index_keys k hk w | (rw [Sem.run_bind]; simp [index_keys k hk w]) | simp [index_keys k hk w]
end Go.Proofs.YtjplfkcelkijfaaGreatDoor
