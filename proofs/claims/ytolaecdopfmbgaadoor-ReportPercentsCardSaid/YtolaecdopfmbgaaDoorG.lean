/- The reference's text of references: for every row of references. -/
import Derived.Lib.ConvBytes
import Derived.Lib.AtoiErrMem
import Derived.Test.YtolaecdopfmbgaaDoorF
namespace Go.Proofs.YtolaecdopfmbgaaDoor
open Go.RowKit

def headL : List UInt8 := [115, 116, 105, 108, 108, 97, 103, 101, 32, 49, 10]
/-- is a size out of range? -/
def badR (r : Rf) : Bool := !r.m && (decide (r.n < 0) || decide (r.n > 999999999))
/-- what is wrong with the rest of a row -/
def errFrom : List Rf → List Rf → Nat
  | _, [] => 0
  | seen, r :: l => if badR r = true then 20 else if hasD seen r.d = true then 7 else errFrom (seen ++ [r]) l
def errT (L : List Rf) : Nat := if L.length > 64 then 8 else errFrom [] L
def bodyL (L : List Rf) : List UInt8 := headL ++ L.flatMap fun r => lineL r ++ [10]
def textT (L : List Rf) : List UInt8 := if errT L = 0 then bodyL L else []
theorem errFrom_at {L : List Rf} {k : Nat} {r : Rf} (h : L[k]? = some r) : errFrom (L.take k) (L.drop k) = if badR r = true then 20 else if hasD (L.take k) r.d = true then 7 else errFrom (L.take (k + 1)) (L.drop (k + 1)) := by
  have hk := (List.getElem?_eq_some_iff.1 h).1
  rw [List.drop_eq_getElem_cons hk, List.take_add_one, h]
  have : L[k] = r := (List.getElem?_eq_some_iff.1 h).2
  rw [this]
  rfl
theorem bodyL_at {L : List Rf} {k : Nat} {r : Rf} (h : L[k]? = some r) : bodyL (L.take (k + 1)) = bodyL (L.take k) ++ (lineL r ++ [10]) := by
  unfold bodyL
  rw [List.take_add_one, h, List.flatMap_append]; simp
theorem lineL_le {r : Rf} (hf : r.fits) : (lineL r).length ≤ 200 := by
  unfold lineL
  have h1 := Lib.itoa_length_le r.n hf.2.1 hf.2.2
  split
  · rw [List.length_append, digT_length, hf.1]; simp
  · simp only [List.length_append, digT_length, hf.1, List.length_cons, List.length_nil]; omega
def allFit (L : List Rf) : Prop := ∀ r ∈ L, r.fits
theorem RefsIn.fit {w : World} {A : Option Addr} {L : List Rf} (h : RefsIn w A L) : allFit L := fun r hr => by
  obtain ⟨k, hk⟩ := List.getElem?_of_mem hr
  exact (h k r hk).1
theorem bodyL_le : ∀ {L : List Rf}, allFit L → (bodyL L).length ≤ 11 + 201 * L.length
  | [], _ => by simp [bodyL, headL]
  | r :: l, h => by
    have ih := bodyL_le (L := l) fun x hx => h x (List.mem_cons_of_mem _ hx)
    have h1 := lineL_le (h r (List.mem_cons_self ..))
    simp only [bodyL, List.length_append, List.flatMap_cons, List.length_cons, List.length_nil] at *
    omega
theorem allFit_take {L : List Rf} (h : allFit L) (k : Nat) : allFit (L.take k) := fun r hr => h r (List.mem_of_mem_take hr)

/-- what Text answers -/
def TextPost (L : List Rf) (w : World) (e : Ending) (w' : World) : Prop :=
  ∃ A cap, e = .returned (.tuple #[.slice A (textT L).length cap, .int .i64 (errT L)]) ∧ CellsIn w' A (Lib.byteCells (textT L)) ∧ Below w.heap.size w w'
theorem TextPost.bad {L : List Rf} {w w' : World} {x : Nat} (hx : errT L = x) (h0 : x ≠ 0) (hb : Below w.heap.size w w') : TextPost L w (.returned (.tuple #[.slice none 0 0, .int .i64 x])) w' := by
  have ht : textT L = [] := by unfold textT; rw [if_neg (by omega)]
  refine ⟨none, 0, ?_, ?_, hb⟩
  · rw [ht, hx]; rfl
  · rw [ht]; intro k v hk; simp [Lib.byteCells] at hk

/-- the world behind []byte(s) -/
theorem cellsIn_bytes (w : World) (l : List UInt8) (cap : Nat) (fr : Nat × Nat) : CellsIn (w.alloc (.cells (bytesRow ⟨l.toArray⟩ cap) 5 fr)).drew (some ⟨w.heap.size, 0, none⟩) (Lib.byteCells l) := fun k v hk => by
  refine ⟨_, _, rfl, ?_⟩
  have hk2 := (List.getElem?_eq_some_iff.1 hk).1
  rw [Lib.byteCells_length] at hk2
  show (w.alloc (.cells (bytesRow ⟨l.toArray⟩ cap) 5 fr)).cell? _ = _
  rw [Lib.cell_of_heap (heap_alloc_new w _), Nat.zero_add, bytesRow_at _ _ _ (by simpa using hk2), ← hk, Lib.byteCells, List.getElem?_map, List.getElem?_eq_getElem hk2]
  simp
theorem TextPost.good {L : List Rf} {w wr : World} {cap cap2 : Nat} {fr : Nat × Nat} (hx : errT L = 0) (hb : Below w.heap.size w wr) :
    TextPost L w (.returned (.tuple #[.slice (some ⟨wr.heap.size, 0, none⟩) (bodyL L).length cap, .int .i64 0])) (wr.alloc (.cells (bytesRow ⟨(bodyL L).toArray⟩ cap2) 5 fr)).drew := by
  have ht : textT L = bodyL L := by unfold textT; rw [if_pos hx]
  refine ⟨some ⟨wr.heap.size, 0, none⟩, cap, ?_, ?_, (hb.alloc hb.size _).drew⟩
  · rw [ht, hx]; rfl
  · rw [ht]; exact cellsIn_bytes wr _ _ _

theorem below_drewN {B : Nat} {a w : World} (h : Below B a w) : ∀ n, Below B a (w.drewN n)
  | 0 => h
  | n + 1 => ⟨h.os, h.tape, h.output, h.size, h.block⟩
set_option maxHeartbeats 1000000 in
set_option maxRecDepth 100000 in
theorem refText_calls (A : Option Addr) (cap : Nat) (L : List Rf) (w : World) (hl : L.length ≤ 140737488351232) (hL : RefsIn w A L) :
    Calls Tryd.prog 10 #[.slice A L.length cap] w (TextPost L w) := by
  have hfit := hL.fit
  by_cases h64 : (L.length : Int) > 64
  · have HE := Lib.hid (show errT L = 8 by unfold errT; rw [if_pos (show L.length > 64 by omega)])
    clear hL hfit
    go_enter Tryd.func10, Tryd.ntmps10
    go_wp2
    go_ret2
    exact TextPost.bad (x := 8) HE.out (by decide) (Below.refl _ _)
  · have HE := Lib.hid (show errT L = errFrom [] L by unfold errT; rw [if_neg (by omega)])
    have HF := Lib.hid hfit
    have h64' : (L.length : Int) ≤ 64 := by omega
    clear hfit hl
    go_enter Tryd.func10, Tryd.ntmps10
    go_wp2
    go_loopw [4, 5] (fun s c wr => ∃ k : Nat, (k : Int) ≤ L.length ∧ c = .int .i64 k ∧ s = .string ⟨(bodyL (L.take k)).toArray⟩ ∧ errFrom [] L = errFrom (L.take k) (L.drop k) ∧ Below w.heap.size w wr) (fun _ c _ => L.length - (intOf c).toNat)
    case atStart => exact ⟨0, by omega, rfl, rfl, rfl, Below.refl _ _⟩
    case round =>
      obtain ⟨k, hk, rfl, rfl, herr, hb⟩ := hrel
      have hLr := hL.below hb
      have hsz := hb.size
      by_cases hlt : (k : Int) < L.length
      · obtain ⟨r, hr⟩ : ∃ r, L[k]? = some r := ⟨_, List.getElem?_eq_getElem (by omega)⟩
        obtain ⟨hf, b, o, rfl, hcr⟩ := hLr k r hr
        have hc0 := range_m hcr
        have hcn := range_n hcr hf
        have hEA := errFrom_at hr
        rw [← herr] at hEA
        have HR := Lib.hid hr
        have HLr := Lib.hid hLr
        have HFT := Lib.hid hf
        have HCR := Lib.hid hcr
        have H29 := Lib.hid (again_calls (some ⟨b, o, none⟩) cap L k r wr (by omega) hLr hr)
        have C41 := Lib.hid (show (Tryd.prog.info? 41).map (·.size) = some (refV r).length by rw [size41, refV_length hf])
        have hll := lineL_le hf
        have hbl := bodyL_le (allFit_take HF.out k)
        rw [List.length_take] at hbl
        have hbl2 : (bodyL (L.take k)).length ≤ 20000 := by omega
        have hn1 : ¬ 9223372036854775807 < (lineL r).length + 1 := by omega
        have hn2 : ¬ 9223372036854775807 < (bodyL (L.take k)).length + ((lineL r).length + 1) := by omega
        have HBA := Lib.hid (bodyL_at hr)
        clear hr hLr hL hf hcr herr hll hbl hbl2
        by_cases hbad : badR r = true
        · have HB := Lib.hid hbad
          rw [if_pos hbad] at hEA
          have HEA := Lib.hid hEA
          unfold badR at hbad
          rw [Bool.and_eq_true, Bool.or_eq_true, decide_eq_true_eq, decide_eq_true_eq] at hbad
          obtain ⟨hm, hn⟩ := hbad
          have hm' : r.m = false := by simpa using hm
          rw [hm'] at hc0
          clear hEA hm hm'
          by_cases hneg : r.n < 0
          · clear hn
            go_wp2
            go_ret2
            exact TextPost.bad (x := 20) (HE.out.trans HEA.out) (by decide) hb
          · have hbig : r.n > 999999999 := by omega
            clear hn
            go_wp2
            go_ret2
            exact TextPost.bad (x := 20) (HE.out.trans HEA.out) (by decide) hb
        · rw [if_neg hbad] at hEA
          have HB := Lib.hid hbad
          unfold badR at hbad
          rw [Bool.and_eq_true, Bool.or_eq_true, decide_eq_true_eq, decide_eq_true_eq] at hbad
          have hgood : r.m = true ∨ (r.m = false ∧ ¬ r.n < 0 ∧ ¬ r.n > 999999999) := by
            cases hm : r.m
            · rw [hm] at hbad
              simp at hbad
              exact .inr ⟨rfl, by omega, by omega⟩
            · exact .inl rfl
          have H30 := Lib.hid (refLine_calls r · HFT.out (hgood.imp id fun h => ⟨by omega, by omega⟩))
          clear hbad
          cases hd : hasD (L.take k) r.d
          · rw [hd, if_neg (by simp)] at hEA
            have HEA := Lib.hid hEA
            rw [hd] at H29
            clear hEA hd
            rcases hgood with hm | ⟨hm, hn, hnn⟩
            · rw [hm] at hc0
              clear hm
              go_wp2_with (first | (go_at_call 29; refine H29.out.mono ?_; rintro e w1 ⟨rfl, nq, rfl⟩) | (refine wpList_load_mid rfl 41 _ rfl b (o + k * 34) rfl (refV r) _ HCR.out Tryd.underlying41 rfl C41.out ?_) | (go_at_call 30; refine (H30.out _).mono ?_; rintro e w2 ⟨rfl, hb2⟩))
              go_roundw
              case rel =>
                refine ⟨k + 1, by omega, by go_num, ?_, HEA.out, (below_drewN hb nq).trans (hb2.mono hsz)⟩
                rw [HBA.out, ← lits, ← lits]
              case measure => simp [intOf]; omega
            · rw [hm] at hc0
              clear hm
              go_wp2_with (first | (go_at_call 29; refine H29.out.mono ?_; rintro e w1 ⟨rfl, nq, rfl⟩) | (refine wpList_load_mid rfl 41 _ rfl b (o + k * 34) rfl (refV r) _ HCR.out Tryd.underlying41 rfl C41.out ?_) | (go_at_call 30; refine (H30.out _).mono ?_; rintro e w2 ⟨rfl, hb2⟩))
              go_roundw
              case rel =>
                refine ⟨k + 1, by omega, by go_num, ?_, HEA.out, (below_drewN hb nq).trans (hb2.mono hsz)⟩
                rw [HBA.out, ← lits, ← lits]
              case measure => simp [intOf]; omega
          · rw [hd, if_pos rfl] at hEA
            have HEA := Lib.hid hEA
            rw [hd] at H29
            clear hEA hd
            rcases hgood with hm | ⟨hm, hn, hnn⟩
            · rw [hm] at hc0
              clear hm
              go_wp2_with (first | (go_at_call 29; refine H29.out.mono ?_; rintro e w1 ⟨rfl, nq, rfl⟩))
              go_ret2
              exact TextPost.bad (x := 7) (HE.out.trans HEA.out) (by decide) (below_drewN hb _)
            · rw [hm] at hc0
              clear hm
              go_wp2_with (first | (go_at_call 29; refine H29.out.mono ?_; rintro e w1 ⟨rfl, nq, rfl⟩))
              go_ret2
              exact TextPost.bad (x := 7) (HE.out.trans HEA.out) (by decide) (below_drewN hb _)
      · obtain rfl : k = L.length := by omega
        rw [List.take_length, List.drop_length] at herr
        rw [List.take_length]
        have HER := Lib.hid herr
        have HCV := Lib.hid (run_bytes_of_string wr 9 23 5 ⟨(bodyL L).toArray⟩ Tryd.underlying9 Tryd.underlying23 Tryd.underlying5)
        clear herr hLr hL
        go_wp2_with (rw [HCV.out])
        go_ret2
        exact TextPost.good (HE.out.trans HER.out) hb
end Go.Proofs.YtolaecdopfmbgaaDoor
