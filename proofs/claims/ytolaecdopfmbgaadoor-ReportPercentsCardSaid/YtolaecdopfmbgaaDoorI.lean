/- manifest.Text: for every row of references. -/
import Derived.Deep.RegionHeld3
import Derived.Deep.Cut
import Derived.Test.YtolaecdopfmbgaaDoorH
namespace Go.Proofs.YtolaecdopfmbgaaDoor
open Go.RowKit

def zeroR : Rf := ⟨false, List.replicate 32 0, 0⟩
theorem zeroR_fits : zeroR.fits := ⟨by simp [zeroR], by simp [zeroR], by simp [zeroR]⟩
theorem info41 : (Tryd.prog.info? 41).map (fun i => (i.zero, i.size)) = some (some (.agg (refV zeroR).toArray), 34) := by kernel_rfl
theorem zero41 : ∀ w, (zeroValue 41).run Tryd.prog w = .ok (.agg (refV zeroR).toArray) w := (zero_of_info info41).1
/-- a new reference -/
theorem wpList_alloc_ref {ops : Array Oper} {rest : List Oper} {a : Act} {w : World} {Q : Exit → Act → World → Prop} {d : Option Tmp} {ty : TypeId} {pos : String} {after : Array Edge}
    (h : wpList Tryd.prog ops Q rest (a.put d (.pointer (some ⟨w.heap.size, 0, none⟩))) (w.alloc (.cells (refV zeroR).toArray 41))) :
    wpList Tryd.prog ops Q ({ dst := d, op := .alloc 41, type := ty, pos := pos, after := after, guard := none } :: rest) a w := by
  refine wpList_plain rfl fun K hK => ?_
  simp only [Oper.wp, execOp, Instr.alloc, Sem.run_bind, zero41, Result.andThen_ok, newVar, newRow]
  exact hK _ _ h
/-- a reference is written whole where one was just made -/
theorem wpList_store_ref {ops : Array Oper} {rest : List Oper} {a : Act} {Q : Exit → Act → World → Prop} {d : Option Tmp} {x y : Tmp} {ty : TypeId} {pos : String} {after : Array Edge}
    (W : World) (r r0 : Rf) (hf : r.fits) (hf0 : r0.fits) (hx : a.tmps.getD x undef = .pointer (some ⟨W.heap.size, 0, none⟩)) (hy : a.tmps.getD y undef = .agg (refV r).toArray)
    (h : wpList Tryd.prog ops Q rest (a.put d undef) (W.alloc (.cells (refV r).toArray 41))) :
    wpList Tryd.prog ops Q ({ dst := d, op := .store 41 (.tmp x) (.tmp y), type := ty, pos := pos, after := after, guard := none } :: rest) a (W.alloc (.cells (refV r0).toArray 41)) := by
  refine wpList_store_row rfl 41 (.tmp x) (.tmp y) rfl W.heap.size (refV r).toArray hx hy 41 (refV r0).toArray (heap_alloc_new W _) (by rw [size41]; simp [refV_length hf]) (by simp [refV_length hf, refV_length hf0]) (refV_one r) ?_
  rw [World.setRow_alloc_new]
  exact h
/-- a reference, a digest is read whole -/
theorem wpList_load_ref {ops : Array Oper} {rest : List Oper} {a : Act} {w : World} {Q : Exit → Act → World → Prop} {d x : Tmp} {ty : TypeId} {pos : String} {after : Array Edge}
    (b o : Nat) (r : Rf) (hx : a.tmps.getD x undef = .pointer (some ⟨b, o, none⟩)) (hc : w.rangeAt b o (refV r)) (hf : r.fits)
    (h : wpList Tryd.prog ops Q rest (a.put (some d) (.agg (refV r).toArray)) w) :
    wpList Tryd.prog ops Q ({ dst := some d, op := .load 41 (.tmp x), type := ty, pos := pos, after := after, guard := none } :: rest) a w :=
  wpList_load_mid rfl 41 (.tmp x) rfl b o hx (refV r) _ hc Tryd.underlying41 rfl (by rw [size41, refV_length hf]) h
theorem wpList_load_dig {ops : Array Oper} {rest : List Oper} {a : Act} {w : World} {Q : Exit → Act → World → Prop} {d x : Tmp} {ty : TypeId} {pos : String} {after : Array Edge}
    (b o : Nat) (l : List UInt8) (hx : a.tmps.getD x undef = .pointer (some ⟨b, o, none⟩)) (hc : w.rangeAt b o (digV l)) (hf : l.length = 32)
    (h : wpList Tryd.prog ops Q rest (a.put (some d) (.agg (digV l).toArray)) w) :
    wpList Tryd.prog ops Q ({ dst := some d, op := .load 39 (.tmp x), type := ty, pos := pos, after := after, guard := none } :: rest) a w :=
  wpList_load_mid rfl 39 (.tmp x) rfl b o hx (digV l) _ hc Tryd.underlying39 rfl (by rw [size39, digV_length, hf]) h
theorem RefsIn.take {w : World} {A : Option Addr} {L : List Rf} (h : RefsIn w A L) (k : Nat) : RefsIn w A (L.take k) := fun j r hj => by
  have : j < k := by
    have := (List.getElem?_eq_some_iff.1 hj).1
    rw [List.length_take] at this; omega
  rw [List.getElem?_take, if_pos this] at hj
  exact h j r hj
theorem hgoodR {r : Rf} (h : ¬ badR r = true) : r.m = true ∨ (r.m = false ∧ ¬ r.n < 0 ∧ ¬ r.n > 999999999) := by
  unfold badR at h
  rw [Bool.and_eq_true, Bool.or_eq_true, decide_eq_true_eq, decide_eq_true_eq] at h
  cases hm : r.m
  · rw [hm] at h
    simp at h
    exact .inr ⟨rfl, by omega, by omega⟩
  · exact .inl rfl
theorem hbadR {r : Rf} (h : badR r = true) : r.m = false ∧ (r.n < 0 ∨ r.n > 999999999) := by
  unfold badR at h
  rw [Bool.and_eq_true, Bool.or_eq_true, decide_eq_true_eq, decide_eq_true_eq] at h
  exact ⟨by simpa using h.1, h.2⟩

theorem refAt_below {w w' : World} {g o n m : Nat} {d : List Value} {x y : Value} (h : w.rangeAt g o d ∧ w.cell? ⟨g, n, none⟩ = some x ∧ w.cell? ⟨g, m, none⟩ = some y) (hb : Below w.heap.size w w') :
    w'.rangeAt g o d ∧ w'.cell? ⟨g, n, none⟩ = some x ∧ w'.cell? ⟨g, m, none⟩ = some y :=
  ⟨rangeAt_below h.1 hb, (hb.cell (p := ⟨g, n, none⟩) (World.block_lt_of_cell? _ _ h.2.1)).trans h.2.1, (hb.cell (p := ⟨g, m, none⟩) (World.block_lt_of_cell? _ _ h.2.2)).trans h.2.2⟩
theorem below_drew0 (w : World) : Below w.heap.size w w.drew := (Below.refl _ _).drew

set_option maxHeartbeats 8000000 in
set_option maxRecDepth 100000 in
theorem text_calls (A : Option Addr) (cap : Nat) (L : List Rf) (w : World) (hl : L.length ≤ 140737488351232) (hcap : L.length ≤ cap) (hL : RefsIn w A L) (hP : Pow w) :
    Calls Tryd.prog 9 #[.slice A L.length cap] w (TextPost L w) := by
  have hfit := hL.fit
  by_cases h64 : (L.length : Int) > 64
  · have HE := Lib.hid (show errT L = 8 by unfold errT; rw [if_pos (show L.length > 64 by omega)])
    clear hL hfit hP
    go_enter Tryd.func9, Tryd.ntmps9
    go_wp2
    go_ret2
    exact TextPost.bad (x := 8) HE.out (by decide) (Below.refl _ _)
  · have HE := Lib.hid (show errT L = errFrom [] L by unfold errT; rw [if_neg (by omega)])
    have HF := Lib.hid hfit
    have h64' : (L.length : Int) ≤ 64 := by omega
    have hcap' : (L.length : Int) ≤ cap := by omega
    have HP := Lib.hid hP
    clear hfit hl hP hcap
    go_enter Tryd.func9, Tryd.ntmps9
    go_wp2
    go_loopw [4, 12] (fun s c wr => ∃ k : Nat, (k : Int) ≤ L.length ∧ c = .int .i64 k ∧ s = .string ⟨(bodyL (L.take k)).toArray⟩ ∧ errFrom [] L = errFrom (L.take k) (L.drop k) ∧ Below w.heap.size w wr) (fun _ c _ => L.length - (intOf c).toNat)
    case atStart => exact ⟨0, by omega, rfl, rfl, rfl, Below.refl _ _⟩
    case round =>
      obtain ⟨k, hk, rfl, rfl, herr, hb⟩ := hrel
      have hLr := hL.below hb
      have hsz := hb.size
      by_cases hlt : (k : Int) < L.length
      · obtain ⟨r, hr⟩ : ∃ r, L[k]? = some r := ⟨_, List.getElem?_eq_getElem (by omega)⟩
        obtain ⟨hf, b, o, rfl, hcr⟩ := hLr k r hr
        have hb1 := hb.alloc hsz (.cells (refV r).toArray 41)
        have hnew := rangeAt_new wr (refV r) 41
        have hc0 := range_m hnew
        have hcn := range_n hnew hf
        have hcd := range_d hnew
        rw [Nat.zero_add] at hcn hcd
        have hEA := errFrom_at hr
        rw [← herr] at hEA
        have hkl : (L.take k).length = k := by rw [List.length_take]; omega
        have h26 := fun x hx => twice_calls (some ⟨b, o, none⟩) cap (L.take k) r.d x (by omega) hx hf.1
        rw [hkl] at h26
        have HLr := Lib.hid ((hL.below hb1).take k)
        have H26 := Lib.hid h26
        have HFT := Lib.hid hf
        have HCR := Lib.hid hcr
        have HCD := Lib.hid hcd
        have HCN := Lib.hid hcn
        have HB1 := Lib.hid hb1
        have H27 := Lib.hid (digText_calls r.d · hf.1)
        have H28 := Lib.hid (itoa_calls r.n hf.2.1 hf.2.2)
        have C41 := Lib.hid (show (Tryd.prog.info? 41).map (·.size) = some (refV r).length by rw [size41, refV_length hf])
        have C39 := Lib.hid (show (Tryd.prog.info? 39).map (·.size) = some (digV r.d).length by rw [size39, digV_length, hf.1])
        have hll := lineL_le hf
        have hbl := bodyL_le (allFit_take HF.out k)
        rw [List.length_take] at hbl
        have hbl2 : (bodyL (L.take k)).length ≤ 20000 := by omega
        have HBL := Lib.hid hbl2
        have HBA := Lib.hid (bodyL_at hr)
        have hkc : (k : Int) ≤ cap := by omega
        clear hr hLr hL hf hcr herr hll hbl hbl2 hcd hnew hb1 h26 hkl
        go_upto_region 7 with (first | ((with_reducible apply wpList_load_ref b (o + k * 34) r); rfl; exact HCR.out; exact HFT.out) | (with_reducible refine wpList_alloc_ref ?_) | ((with_reducible apply wpList_store_ref wr r zeroR HFT.out zeroR_fits); rfl; rfl))
        generalize hW : wr.alloc (.cells (refV r).toArray 41) = W1 at *
        clear hW
        by_cases hbad : badR r = true
        · rw [if_pos hbad] at hEA
          have HEA := Lib.hid hEA
          obtain ⟨hm, hn⟩ := hbadR hbad
          rw [hm] at hc0
          clear hEA hm hbad
          by_cases hneg : r.n < 0
          · clear hn
            go_wp2
            go_ret2
            exact TextPost.bad (x := 20) (HE.out.trans HEA.out) (by decide) HB1.out
          · have hbig : r.n > 999999999 := by omega
            clear hn
            go_wp2
            go_ret2
            exact TextPost.bad (x := 20) (HE.out.trans HEA.out) (by decide) HB1.out
        · rw [if_neg hbad] at hEA
          have hgood := hgoodR hbad
          have HEA := Lib.hid hEA
          clear hbad hEA
          rcases hgood with hm | ⟨hm, hn, hnn⟩
          · rw [hm] at hc0
            have HM := Lib.hid hm
            clear hm
            go_wp2
            have t39 := Tryd.underlying39
            have c39 := C39.out
            have HS0 := Lib.hid (And.intro HCD.out (And.intro HCN.out hc0))
            go_region_held3 (fun w' => w'.rangeAt wr.heap.size 1 (digV r.d) ∧ w'.cell? ⟨wr.heap.size, 33, none⟩ = some (.int .i64 r.n) ∧ w'.cell? ⟨wr.heap.size, 0, none⟩ = some (.bool true)) (first | exact HS0.out | assumption) (first | (go_at_call 26; refine (H26.out _ (HLr.out.below (below_drew0 _))).mono ?_; rintro e w1 ⟨rfl, hb2⟩; have hS1 := refAt_below (w := W1.drew) HS0.out hb2))
            have hbw : Below w.heap.size w w1 := HB1.out.drew.trans (hb2.mono HB1.out.size)
            have hsw := hbw.size
            generalize hq : hasD (L.take k) r.d = q
            have HQ := Lib.hid hq
            clear hq
            cases q
            · obtain ⟨hd1, hn1, hm1⟩ := hS1
              have HD1 := Lib.hid hd1
              clear hd1
              have LE := Lib.hid (lineL_le HFT.out)
              have hx1 : ¬ 9223372036854775807 < 9 + (digT r.d).length := by rw [digT_length, HFT.out.1]; omega
              have hx2 : ¬ 9223372036854775807 < 9 + (digT r.d).length + 1 := by rw [digT_length, HFT.out.1]; omega
              have hx3 : ¬ 9223372036854775807 < (bodyL (L.take k)).length + (9 + (digT r.d).length + 1) := by have := HBL.out; rw [digT_length, HFT.out.1]; omega
              go_wp2_with (first | ((with_reducible apply wpList_load_dig wr.heap.size 1 r.d); rfl; exact HD1.out; exact HFT.out.1) | (go_at_call 27; refine (H27.out _).mono ?_; rintro e w2 ⟨rfl, hb3⟩))
              go_roundw
              case rel =>
                refine ⟨k + 1, by omega, by go_num, ?_, HEA.out.trans (by rw [HQ.out]; rfl), hbw.trans (hb3.mono hsw)⟩
                rw [HBA.out]
                unfold lineL
                rw [HM.out, if_pos rfl, ← lits, ← lits, ← lits]
              case measure => simp [intOf]; omega
            · go_wp2
              go_ret2
              exact TextPost.bad (x := 7) (HE.out.trans (HEA.out.trans (by rw [HQ.out]; rfl))) (by decide) hbw
          · rw [hm] at hc0
            have HM := Lib.hid hm
            clear hm
            go_wp2
            have t39 := Tryd.underlying39
            have c39 := C39.out
            have HS0 := Lib.hid (And.intro HCD.out (And.intro HCN.out hc0))
            go_region_held3 (fun w' => w'.rangeAt wr.heap.size 1 (digV r.d) ∧ w'.cell? ⟨wr.heap.size, 33, none⟩ = some (.int .i64 r.n) ∧ w'.cell? ⟨wr.heap.size, 0, none⟩ = some (.bool false)) (first | exact HS0.out | assumption) (first | (go_at_call 26; refine (H26.out _ (HLr.out.below (below_drew0 _))).mono ?_; rintro e w1 ⟨rfl, hb2⟩; have hS1 := refAt_below (w := W1.drew) HS0.out hb2))
            have hbw : Below w.heap.size w w1 := HB1.out.drew.trans (hb2.mono HB1.out.size)
            have hsw := hbw.size
            generalize hq : hasD (L.take k) r.d = q
            have HQ := Lib.hid hq
            clear hq
            cases q
            · obtain ⟨hd1, hn1, hm1⟩ := hS1
              have HS1 := Lib.hid (And.intro hd1 hn1)
              have hpw := HP.out.below hbw
              have HPW := Lib.hid hpw
              clear hd1 hpw
              have LI := Lib.itoa_length_le r.n HFT.out.2.1 HFT.out.2.2
              have hx1 : ¬ 9223372036854775807 < 5 + (digT r.d).length := by rw [digT_length, HFT.out.1]; omega
              have hx2 : ¬ 9223372036854775807 < 5 + (digT r.d).length + 1 := by rw [digT_length, HFT.out.1]; omega
              have hx3 : ¬ 9223372036854775807 < 5 + (digT r.d).length + 1 + (Lib.itoa r.n).length := by rw [digT_length, HFT.out.1]; omega
              have hx4 : ¬ 9223372036854775807 < 5 + (digT r.d).length + 1 + (Lib.itoa r.n).length + 1 := by rw [digT_length, HFT.out.1]; omega
              have hx5 : ¬ 9223372036854775807 < (bodyL (L.take k)).length + (5 + (digT r.d).length + 1 + (Lib.itoa r.n).length + 1) := by have := HBL.out; rw [digT_length, HFT.out.1]; omega
              clear LI
              go_wp2
              go_region_held3 (fun w' => w'.rangeAt wr.heap.size 1 (digV r.d) ∧ w'.cell? ⟨wr.heap.size, 33, none⟩ = some (.int .i64 r.n)) (first | exact HS1.out | assumption) (first | (go_at_call 27; refine (H27.out _).mono ?_; rintro e w2 ⟨rfl, hb3⟩; have hS2 : w2.rangeAt wr.heap.size 1 (digV r.d) ∧ w2.cell? ⟨wr.heap.size, 33, none⟩ = some (.int .i64 r.n) := ⟨rangeAt_below (w := w1.drew) HS1.out.1 hb3, (hb3.cell (p := ⟨wr.heap.size, 33, none⟩) (World.block_lt_of_cell? _ _ HS1.out.2)).trans HS1.out.2⟩) | (go_at_call 28; refine (H28.out _ (HPW.out.below (((Below.refl _ _).drew).trans hb3))).mono ?_; rintro e w3 ⟨rfl, hb4⟩; have hS3 : w3.rangeAt wr.heap.size 1 (digV r.d) ∧ w3.cell? ⟨wr.heap.size, 33, none⟩ = some (.int .i64 r.n) := ⟨rangeAt_below hS2.1 hb4, (hb4.cell (p := ⟨wr.heap.size, 33, none⟩) (World.block_lt_of_cell? _ _ hS2.2)).trans hS2.2⟩))
              go_wp2
              go_roundw
              case rel =>
                refine ⟨k + 1, by omega, by go_num, ?_, HEA.out.trans (by rw [HQ.out]; rfl), (hbw.trans (((Below.refl _ _).drew.trans hb3).mono hsw)).trans (hb4.mono (Nat.le_trans hsw hb3.size))⟩
                rw [HBA.out]
                unfold lineL
                rw [HM.out, if_neg (by simp), ← lits, ← lits, ← lits, ← lits, ← lits]
              case measure => simp [intOf]; omega
            · go_wp2
              go_ret2
              exact TextPost.bad (x := 7) (HE.out.trans (HEA.out.trans (by rw [HQ.out]; rfl))) (by decide) hbw
      · obtain rfl : k = L.length := by omega
        rw [List.take_length, List.drop_length] at herr
        rw [List.take_length]
        have HER := Lib.hid herr
        have HCV := Lib.hid (run_bytes_of_string wr 9 23 5 ⟨(bodyL L).toArray⟩ Tryd.underlying9 Tryd.underlying23 Tryd.underlying5)
        clear herr hLr hL
        go_wp2_with (rw [HCV.out])
        go_ret2
        exact TextPost.good (HE.out.trans HER.out) hb
end Go.Proofs.YtolaecdopfmbgaaDoor
