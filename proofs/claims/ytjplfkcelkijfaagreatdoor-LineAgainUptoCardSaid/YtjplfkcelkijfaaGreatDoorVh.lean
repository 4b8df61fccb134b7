/- line.Reply: a reply's line. Condition: data of at most 1048576 bytes, names of at most 4194304 bytes in all; the table of powers lies. -/
import Derived.Lib.Join
import Derived.Test.YtjplfkcelkijfaaGreatDoorVg
namespace Go.Proofs.YtjplfkcelkijfaaGreatDoor
open Go.RowKit
attribute [local irreducible] wpQuiet
attribute [local go_sem] equalIn_dig eqGuard39

theorem join_is (c : UInt8) : ∀ l : List (List UInt8), Lib.join l [c] = joinC c l
  | [] => rfl
  | [w] => Lib.join_one w [c]
  | w :: v :: r => by
    have ih := join_is c (v :: r)
    show Lib.join (w :: v :: r) [c] = w ++ c :: joinC c (v :: r)
    rw [← ih]
    unfold Lib.join
    simp [List.intercalate]
theorem bytesL_map (l : List (List UInt8)) : (l.map fun s => (⟨s.toArray⟩ : ByteArray)).map (·.data.toList) = l := by
  rw [List.map_map]
  conv => rhs; rw [← List.map_id l]
  apply List.map_congr_left
  intro a _; simp
/-- names that came in, joined -/
theorem join_calls (A : Option Addr) (cap : Nat) (l : List (List UInt8)) (w : World) (h : StrsIn w (.slice A l.length cap) l) (hcap : l.length ≤ cap) (hl : l.length ≤ 4194304) (hj : (joinC 44 l).length ≤ 4194304) :
    Calls Tryz.prog 30 #[.slice A l.length cap, .string ⟨#[44]⟩] w fun e w' => e = .returned (.string ⟨(joinC 44 l).toArray⟩) ∧ Below w.heap.size w w' := by
  cases l with
  | nil =>
    refine (Tryz.strings_Join_none A cap ⟨#[44]⟩ w).mono ?_
    rintro e w' ⟨rfl, rfl⟩
    exact ⟨rfl, Below.refl _ _⟩
  | cons x r =>
    obtain ⟨a, c', e, hc⟩ := h
    obtain ⟨g, o, ha, hx⟩ := hc 0 x rfl
    injection e with e1 _ e3
    rw [ha] at e1
    subst e1
    have hlen : ((x :: r).map fun s => (⟨s.toArray⟩ : ByteArray)).length = (x :: r).length := by simp
    have h1 := Tryz.strings_Join g o cap ((x :: r).map fun s => (⟨s.toArray⟩ : ByteArray)) ⟨#[44]⟩ w (fun j y hy => by
      rw [List.getElem?_map] at hy
      obtain ⟨z, hz, rfl⟩ := Option.map_eq_some_iff.1 hy
      obtain ⟨g', o', ha', hz'⟩ := hc j z hz
      rw [ha] at ha'
      injection ha' with ha'
      injection ha' with e1 e2
      subst e1; subst e2
      exact hz') (World.block_lt_of_cell? _ _ hx) (by rw [hlen]; omega) (by rw [hlen]; exact hcap) (by rw [bytesL_map, show (⟨#[44]⟩ : ByteArray).data.toList = [44] from rfl, join_is]; omega)
    rw [hlen, bytesL_map, show (⟨#[44]⟩ : ByteArray).data.toList = [44] from rfl, join_is] at h1
    exact h1
/-- what a reply needs that its line is made -/
structure RepOk (w : World) (r : RepV) (A : Option Addr) (c1 : Nat) (A2 : Option Addr) (c2 : Nat) : Prop where
  fits : r.fits
  data : CellsIn w A (Lib.byteCells r.b)
  names : StrsIn w (.slice A2 r.l.length c2) r.l
  cap : r.l.length ≤ c2
  bl : r.b.length ≤ 1048576
  ll : r.l.length ≤ 4194304
  jl : (joinC 44 r.l).length ≤ 4194304
theorem RepOk.below {w w' : World} {r : RepV} {A : Option Addr} {c1 : Nat} {A2 : Option Addr} {c2 : Nat} (h : RepOk w r A c1 A2 c2) (hb : Below w.heap.size w w') : RepOk w' r A c1 A2 c2 :=
  ⟨h.fits, h.data.below hb, h.names.below hb, h.cap, h.bl, h.ll, h.jl⟩
abbrev repS (r : RepV) (A : Option Addr) (c1 : Nat) (A2 : Option Addr) (c2 : Nat) : List Value := repV r (.slice A r.b.length c1) (.slice A2 r.l.length c2)
def someB (n : Nat) : Bool := decide ((0 : Int) < n)
/-- the line's parts -/
def pieceL (r : RepV) : Nat → List UInt8
  | 0 => tellL (r.i != 0) [105, 100] (Lib.itoa r.i)
  | 1 => tellL (r.k != 0) [107, 105, 110, 100] (Lib.itoa r.k)
  | 2 => tellL (r.n != 0) [110] (Lib.itoa r.n)
  | 3 => tellL (!(r.d == zeroD)) [100, 105, 103, 101, 115, 116] (digT r.d)
  | 4 => tellL (someB r.b.length) [100, 97, 116, 97] (120 :: hexL r.b)
  | 5 => tellL (someB r.l.length) [110, 97, 109, 101, 115] (joinC 44 r.l)
  | _ => []
/-- the line's first parts -/
def repTo (r : RepV) : Nat → List UInt8
  | 0 => [111, 107]
  | k + 1 => repTo r k ++ pieceL r k
theorem tellL_len (is : Bool) (wd s : List UInt8) : (tellL is wd s).length ≤ wd.length + s.length + 2 := by
  unfold tellL; split <;> simp
  omega
theorem repTo_len {r : RepV} (hf : r.fits) (hb : r.b.length ≤ 1048576) (hj : (joinC 44 r.l).length ≤ 4194304) : (repTo r 1).length ≤ 100 ∧ (repTo r 2).length ≤ 200 ∧ (repTo r 3).length ≤ 300 ∧ (repTo r 4).length ≤ 400 ∧ (repTo r 5).length ≤ 2200000 ∧ (repTo r 6).length ≤ 6500000 := by
  obtain ⟨_, hi, hk, hn, hd⟩ := hf
  have h1 := tellL_len (r.i != 0) [105, 100] (Lib.itoa r.i)
  have h2 := tellL_len (r.k != 0) [107, 105, 110, 100] (Lib.itoa r.k)
  have h3 := tellL_len (r.n != 0) [110] (Lib.itoa r.n)
  have h4 := tellL_len (!(r.d == zeroD)) [100, 105, 103, 101, 115, 116] (digT r.d)
  have h5 := tellL_len (someB r.b.length) [100, 97, 116, 97] (120 :: hexL r.b)
  have h6 := tellL_len (someB r.l.length) [110, 97, 109, 101, 115] (joinC 44 r.l)
  have l1 := itoa_len r.i hi.1 hi.2
  have l2 := itoa_len r.k hk.1 hk.2
  have l3 := itoa_len r.n hn.1 hn.2
  rw [digT_length, hd] at h4
  simp only [List.length_cons, List.length_nil, hexL_length] at h1 h2 h3 h4 h5 h6
  have e1 : (repTo r 1).length = (repTo r 0).length + (pieceL r 0).length := by show (repTo r 0 ++ pieceL r 0).length = _; rw [List.length_append]
  have e2 : (repTo r 2).length = (repTo r 1).length + (pieceL r 1).length := by show (repTo r 1 ++ pieceL r 1).length = _; rw [List.length_append]
  have e3 : (repTo r 3).length = (repTo r 2).length + (pieceL r 2).length := by show (repTo r 2 ++ pieceL r 2).length = _; rw [List.length_append]
  have e4 : (repTo r 4).length = (repTo r 3).length + (pieceL r 3).length := by show (repTo r 3 ++ pieceL r 3).length = _; rw [List.length_append]
  have e5 : (repTo r 5).length = (repTo r 4).length + (pieceL r 4).length := by show (repTo r 4 ++ pieceL r 4).length = _; rw [List.length_append]
  have e6 : (repTo r 6).length = (repTo r 5).length + (pieceL r 5).length := by show (repTo r 5 ++ pieceL r 5).length = _; rw [List.length_append]
  have e0 : (repTo r 0).length = 2 := rfl
  simp only [pieceL] at e1 e2 e3 e4 e5 e6
  omega
theorem repTo_line (r : RepV) (he : r.e = 0) : replyL r = repTo r 6 := by
  unfold replyL
  rw [if_neg (by simpa using he)]
  have b1 : (r.i != 0) = decide (r.i ≠ 0) := by rw [Bool.eq_iff_iff]; simp
  have b2 : (r.k != 0) = decide (r.k ≠ 0) := by rw [Bool.eq_iff_iff]; simp
  have b3 : (r.n != 0) = decide (r.n ≠ 0) := by rw [Bool.eq_iff_iff]; simp
  have b4 : (!(r.d == zeroD)) = decide (r.d ≠ zeroD) := by rw [Bool.eq_iff_iff]; simp
  have b5 : someB r.b.length = decide (r.b ≠ []) := by
    unfold someB
    rw [Bool.eq_iff_iff, decide_eq_true_eq, decide_eq_true_eq]
    constructor
    · intro h e; rw [e] at h; simp at h
    · intro h; have := List.length_pos_iff.2 h; omega
  have b6 : someB r.l.length = decide (r.l ≠ []) := by
    unfold someB
    rw [Bool.eq_iff_iff, decide_eq_true_eq, decide_eq_true_eq]
    constructor
    · intro h e; rw [e] at h; simp at h
    · intro h; have := List.length_pos_iff.2 h; omega
  simp only [repTo, pieceL, idL, kindL', nL, digL, dataL, namesL, b1, b2, b3, b4, b5, b6]
set_option maxRecDepth 100000 in
theorem built_zeroD : Tryz.prog.built 23 [] = some (digV zeroD).toArray := by kernel_rfl
set_option maxHeartbeats 4000000 in
set_option maxRecDepth 100000 in
theorem reply_calls (r : RepV) (A : Option Addr) (c1 : Nat) (A2 : Option Addr) (c2 : Nat) (w : World) (h : RepOk w r A c1 A2 c2) (hP : Pow w) :
    Calls Tryz.prog 11 #[.agg (repS r A c1 A2 c2).toArray] w fun e w' => e = .returned (.string ⟨(replyL r).toArray⟩) ∧ Below w.heap.size w w' := by
  have hb0 : Below w.heap.size w (w.alloc (.cells (repS r A c1 A2 c2).toArray 37)) := (Below.refl _ _).alloc (Nat.le_refl _) _
  have hR := repAt_new w r (.slice A r.b.length c1) (.slice A2 r.l.length c2) h.fits.2.2.2.2
  have h0 := h.below hb0
  have hP0 := hP.below hb0
  have he := hR.e
  have hn0 : (w.alloc (.cells (repS r A c1 A2 c2).toArray 37)).heap.size = w.heap.size + 1 := by simp
  by_cases hz : r.e = 0
  · have hq : ((r.e : Int) != 0) = false := by rw [hz]; rfl
    have HZ := Lib.hid hz
    clear hz h hP
    go_enter Tryz.func11, Tryz.ntmps11
    go_upto_region 4 with (fail)
    rw [← hn0]
    clear hn0
    generalize w.alloc (.cells (repS r A c1 A2 c2).toArray 37) = w0 at *
    have hbl : Lib.IsBuilder 62 5 w0.heap.size w0.heap.size (Lib.byteCells []) (w0.alloc (.cells #[.pointer none, .slice none 0 0] 62)) := Lib.fresh_isBuilder _ _ _
    have hb1 : Below w0.heap.size w0 (w0.alloc (.cells #[.pointer none, .slice none 0 0] 62)) := (Below.refl _ _).alloc (Nat.le_refl _) _
    change Code.wp _ _ _ _ (w0.alloc (.cells #[.pointer none, .slice none 0 0] 62))
    have hsz1 : w0.heap.size ≤ (w0.alloc (.cells #[.pointer none, .slice none 0 0] 62)).heap.size := hb1.size
    generalize w0.alloc (.cells #[.pointer none, .slice none 0 0] 62) = w1 at *
    have HWS := Lib.hid (writeString_calls w0.heap.size w0.heap.size (Lib.byteCells []) ⟨[111, 107].toArray⟩ w1 hbl (by simp [Lib.byteCells]; decide) hsz1)
    have HR0 := Lib.hid hR
    have H0 := Lib.hid h0
    have HP0 := Lib.hid hP0
    have HB0 := Lib.hid hb0
    have HB1 := Lib.hid hb1
    have hd := h0.fits.2.2.2.2
    have hlen := repTo_len h0.fits h0.bl h0.jl
    have HLEN := Lib.hid hlen
    have hxl : ¬ 9223372036854775807 < 1 + (hexL r.b).length := by rw [hexL_length]; have := h0.bl; omega
    clear hR h0 hP0 hb0 hb1 he hbl hlen
    go_upto_region 6 with (first | (go_at_call 27; refine HWS.out.mono ?_; rintro e w2 ⟨rfl, hbd, hb2⟩; rw [show Lib.byteCells [] ++ Lib.strCells ⟨[111, 107].toArray⟩ = Lib.byteCells (repTo r 0) from rfl] at hbd; have HBD0 : Hid (Lib.IsBuilder 62 5 w0.heap.size w0.heap.size (Lib.byteCells (repTo r 0)) w2) := .inr hbd; have HBB0 := Lib.hid (HB1.out.trans hb2); clear hbd hb2))
    have HRK0 : Hid (∀ W, Below w2.heap.size w2 W → RepAt W w.heap.size r (.slice A r.b.length c1) (.slice A2 r.l.length c2)) := fun W hW => HR0.out.below (HBB0.out.trans (hW.mono HBB0.out.size))
    have HOK0 : Hid (∀ W, Below w2.heap.size w2 W → RepOk W r A c1 A2 c2 ∧ Pow W) := fun W hW => ⟨H0.out.below (HBB0.out.trans (hW.mono HBB0.out.size)), HP0.out.below (HBB0.out.trans (hW.mono HBB0.out.size))⟩
    have HIB0 : Hid (∀ W, Below w2.heap.size w2 W → Lib.IsBuilder 62 5 w0.heap.size w0.heap.size (Lib.byteCells (repTo r 0)) W) := fun W hW => isBuilder_later HBD0.out hW
    refine wp_region_tail 7 (by kernel_rfl) ?_
    simp only [List.take_succ_cons, List.take_zero, List.drop_succ_cons, List.drop_zero]
    refine qv (.func (.func 26) #[] #[.pointer (some ⟨w0.heap.size, 0, none⟩)]) (by kernel_rfl) (fun W => rfl) ?_
    try simp only [Act.put, List.setIfInBounds_toArray, List.set_cons_zero, List.set_cons_succ]
    refine qv (.pointer (some ⟨w.heap.size, 1, none⟩)) (by kernel_rfl) (fun W => by go_simp) ?_
    try simp only [Act.put, List.setIfInBounds_toArray, List.set_cons_zero, List.set_cons_succ]
    refine qr (.int .i64 r.i) (by kernel_rfl) (fun W h => by have := (HRK0.out W h).i; go_simp) ?_
    try simp only [Act.put, List.setIfInBounds_toArray, List.set_cons_zero, List.set_cons_succ]
    refine qv (.bool (r.i != 0)) (by kernel_rfl) (fun W => by go_simp) ?_
    try simp only [Act.put, List.setIfInBounds_toArray, List.set_cons_zero, List.set_cons_succ]
    refine qv (.pointer (some ⟨w.heap.size, 1, none⟩)) (by kernel_rfl) (fun W => by go_simp) ?_
    try simp only [Act.put, List.setIfInBounds_toArray, List.set_cons_zero, List.set_cons_succ]
    refine qr (.int .i64 r.i) (by kernel_rfl) (fun W h => by have := (HRK0.out W h).i; go_simp) ?_
    try simp only [Act.put, List.setIfInBounds_toArray, List.set_cons_zero, List.set_cons_succ]
    refine qc (.string ⟨(Lib.itoa r.i).toArray⟩) 25 #[.int .i64 r.i] (by kernel_rfl) (fun W => by go_simp) (fun W h => grown_call h (itoa_calls r.i H0.out.fits.2.1.1 H0.out.fits.2.1.2 W (HOK0.out W h).2)) ?_
    try simp only [Act.put, List.setIfInBounds_toArray, List.set_cons_zero, List.set_cons_succ]
    refine wpQuiet_nil fun y0 hy0 => ?_
    have HC0 := Lib.hid (tell_calls w0.heap.size w0.heap.size (repTo r 0) (r.i != 0) [105, 100] (Lib.itoa r.i) y0 (HIB0.out y0 hy0) (by have := HLEN.out; first | omega | exact Nat.le_trans (Nat.le_refl 2) (by decide)) (by decide) (by have := itoa_len r.i H0.out.fits.2.1.1 H0.out.fits.2.1.2; omega) (Nat.le_trans HBB0.out.size hy0.size))
    have HY0 := Lib.hid (HBB0.out.trans (hy0.mono HBB0.out.size))
    clear hy0 HRK0 HOK0 HIB0
    go_upto_region 7 with (first | (go_at_call 26; refine HC0.out.mono ?_; rintro e x1 ⟨rfl, hbd, hbx⟩; have HBD1 : Hid (Lib.IsBuilder 62 5 w0.heap.size w0.heap.size (Lib.byteCells (repTo r 1)) x1) := hbd; have HBB1 := Lib.hid (HY0.out.trans hbx); clear hbd hbx))
    have HRK1 : Hid (∀ W, Below x1.heap.size x1 W → RepAt W w.heap.size r (.slice A r.b.length c1) (.slice A2 r.l.length c2)) := fun W hW => HR0.out.below (HBB1.out.trans (hW.mono HBB1.out.size))
    have HOK1 : Hid (∀ W, Below x1.heap.size x1 W → RepOk W r A c1 A2 c2 ∧ Pow W) := fun W hW => ⟨H0.out.below (HBB1.out.trans (hW.mono HBB1.out.size)), HP0.out.below (HBB1.out.trans (hW.mono HBB1.out.size))⟩
    have HIB1 : Hid (∀ W, Below x1.heap.size x1 W → Lib.IsBuilder 62 5 w0.heap.size w0.heap.size (Lib.byteCells (repTo r 1)) W) := fun W hW => isBuilder_later HBD1.out hW
    refine wp_region_tail 7 (by kernel_rfl) ?_
    simp only [List.take_succ_cons, List.take_zero, List.drop_succ_cons, List.drop_zero]
    refine qv (.func (.func 26) #[] #[.pointer (some ⟨w0.heap.size, 0, none⟩)]) (by kernel_rfl) (fun W => rfl) ?_
    try simp only [Act.put, List.setIfInBounds_toArray, List.set_cons_zero, List.set_cons_succ]
    refine qv (.pointer (some ⟨w.heap.size, 2, none⟩)) (by kernel_rfl) (fun W => by go_simp) ?_
    try simp only [Act.put, List.setIfInBounds_toArray, List.set_cons_zero, List.set_cons_succ]
    refine qr (.int .i64 r.k) (by kernel_rfl) (fun W h => by have := (HRK1.out W h).k; go_simp) ?_
    try simp only [Act.put, List.setIfInBounds_toArray, List.set_cons_zero, List.set_cons_succ]
    refine qv (.bool (r.k != 0)) (by kernel_rfl) (fun W => by go_simp) ?_
    try simp only [Act.put, List.setIfInBounds_toArray, List.set_cons_zero, List.set_cons_succ]
    refine qv (.pointer (some ⟨w.heap.size, 2, none⟩)) (by kernel_rfl) (fun W => by go_simp) ?_
    try simp only [Act.put, List.setIfInBounds_toArray, List.set_cons_zero, List.set_cons_succ]
    refine qr (.int .i64 r.k) (by kernel_rfl) (fun W h => by have := (HRK1.out W h).k; go_simp) ?_
    try simp only [Act.put, List.setIfInBounds_toArray, List.set_cons_zero, List.set_cons_succ]
    refine qc (.string ⟨(Lib.itoa r.k).toArray⟩) 25 #[.int .i64 r.k] (by kernel_rfl) (fun W => by go_simp) (fun W h => grown_call h (itoa_calls r.k H0.out.fits.2.2.1.1 H0.out.fits.2.2.1.2 W (HOK1.out W h).2)) ?_
    try simp only [Act.put, List.setIfInBounds_toArray, List.set_cons_zero, List.set_cons_succ]
    refine wpQuiet_nil fun y1 hy1 => ?_
    have HC1 := Lib.hid (tell_calls w0.heap.size w0.heap.size (repTo r 1) (r.k != 0) [107, 105, 110, 100] (Lib.itoa r.k) y1 (HIB1.out y1 hy1) (by have := HLEN.out; first | omega | exact Nat.le_trans (Nat.le_refl 2) (by decide)) (by decide) (by have := itoa_len r.k H0.out.fits.2.2.1.1 H0.out.fits.2.2.1.2; omega) (Nat.le_trans HBB1.out.size hy1.size))
    have HY1 := Lib.hid (HBB1.out.trans (hy1.mono HBB1.out.size))
    clear hy1 HRK1 HOK1 HIB1
    go_upto_region 8 with (first | (go_at_call 26; refine HC1.out.mono ?_; rintro e x2 ⟨rfl, hbd, hbx⟩; have HBD2 : Hid (Lib.IsBuilder 62 5 w0.heap.size w0.heap.size (Lib.byteCells (repTo r 2)) x2) := hbd; have HBB2 := Lib.hid (HY1.out.trans hbx); clear hbd hbx))
    have HRK2 : Hid (∀ W, Below x2.heap.size x2 W → RepAt W w.heap.size r (.slice A r.b.length c1) (.slice A2 r.l.length c2)) := fun W hW => HR0.out.below (HBB2.out.trans (hW.mono HBB2.out.size))
    have HOK2 : Hid (∀ W, Below x2.heap.size x2 W → RepOk W r A c1 A2 c2 ∧ Pow W) := fun W hW => ⟨H0.out.below (HBB2.out.trans (hW.mono HBB2.out.size)), HP0.out.below (HBB2.out.trans (hW.mono HBB2.out.size))⟩
    have HIB2 : Hid (∀ W, Below x2.heap.size x2 W → Lib.IsBuilder 62 5 w0.heap.size w0.heap.size (Lib.byteCells (repTo r 2)) W) := fun W hW => isBuilder_later HBD2.out hW
    refine wp_region_tail 7 (by kernel_rfl) ?_
    simp only [List.take_succ_cons, List.take_zero, List.drop_succ_cons, List.drop_zero]
    refine qv (.func (.func 26) #[] #[.pointer (some ⟨w0.heap.size, 0, none⟩)]) (by kernel_rfl) (fun W => rfl) ?_
    try simp only [Act.put, List.setIfInBounds_toArray, List.set_cons_zero, List.set_cons_succ]
    refine qv (.pointer (some ⟨w.heap.size, 3, none⟩)) (by kernel_rfl) (fun W => by go_simp) ?_
    try simp only [Act.put, List.setIfInBounds_toArray, List.set_cons_zero, List.set_cons_succ]
    refine qr (.int .i64 r.n) (by kernel_rfl) (fun W h => by have := (HRK2.out W h).n; go_simp) ?_
    try simp only [Act.put, List.setIfInBounds_toArray, List.set_cons_zero, List.set_cons_succ]
    refine qv (.bool (r.n != 0)) (by kernel_rfl) (fun W => by go_simp) ?_
    try simp only [Act.put, List.setIfInBounds_toArray, List.set_cons_zero, List.set_cons_succ]
    refine qv (.pointer (some ⟨w.heap.size, 3, none⟩)) (by kernel_rfl) (fun W => by go_simp) ?_
    try simp only [Act.put, List.setIfInBounds_toArray, List.set_cons_zero, List.set_cons_succ]
    refine qr (.int .i64 r.n) (by kernel_rfl) (fun W h => by have := (HRK2.out W h).n; go_simp) ?_
    try simp only [Act.put, List.setIfInBounds_toArray, List.set_cons_zero, List.set_cons_succ]
    refine qc (.string ⟨(Lib.itoa r.n).toArray⟩) 25 #[.int .i64 r.n] (by kernel_rfl) (fun W => by go_simp) (fun W h => grown_call h (itoa_calls r.n H0.out.fits.2.2.2.1.1 H0.out.fits.2.2.2.1.2 W (HOK2.out W h).2)) ?_
    try simp only [Act.put, List.setIfInBounds_toArray, List.set_cons_zero, List.set_cons_succ]
    refine wpQuiet_nil fun y2 hy2 => ?_
    have HC2 := Lib.hid (tell_calls w0.heap.size w0.heap.size (repTo r 2) (r.n != 0) [110] (Lib.itoa r.n) y2 (HIB2.out y2 hy2) (by have := HLEN.out; first | omega | exact Nat.le_trans (Nat.le_refl 2) (by decide)) (by decide) (by have := itoa_len r.n H0.out.fits.2.2.2.1.1 H0.out.fits.2.2.2.1.2; omega) (Nat.le_trans HBB2.out.size hy2.size))
    have HY2 := Lib.hid (HBB2.out.trans (hy2.mono HBB2.out.size))
    clear hy2 HRK2 HOK2 HIB2
    go_upto_region 9 with (first | (go_at_call 26; refine HC2.out.mono ?_; rintro e x3 ⟨rfl, hbd, hbx⟩; have HBD3 : Hid (Lib.IsBuilder 62 5 w0.heap.size w0.heap.size (Lib.byteCells (repTo r 3)) x3) := hbd; have HBB3 := Lib.hid (HY2.out.trans hbx); clear hbd hbx))
    have HRK3 : Hid (∀ W, Below x3.heap.size x3 W → RepAt W w.heap.size r (.slice A r.b.length c1) (.slice A2 r.l.length c2)) := fun W hW => HR0.out.below (HBB3.out.trans (hW.mono HBB3.out.size))
    have HOK3 : Hid (∀ W, Below x3.heap.size x3 W → RepOk W r A c1 A2 c2 ∧ Pow W) := fun W hW => ⟨H0.out.below (HBB3.out.trans (hW.mono HBB3.out.size)), HP0.out.below (HBB3.out.trans (hW.mono HBB3.out.size))⟩
    have HIB3 : Hid (∀ W, Below x3.heap.size x3 W → Lib.IsBuilder 62 5 w0.heap.size w0.heap.size (Lib.byteCells (repTo r 3)) W) := fun W hW => isBuilder_later HBD3.out hW
    refine wp_region_tail 8 (by kernel_rfl) ?_
    simp only [List.take_succ_cons, List.take_zero, List.drop_succ_cons, List.drop_zero]
    refine qv (.func (.func 26) #[] #[.pointer (some ⟨w0.heap.size, 0, none⟩)]) (by kernel_rfl) (fun W => rfl) ?_
    try simp only [Act.put, List.setIfInBounds_toArray, List.set_cons_zero, List.set_cons_succ]
    refine qv (.pointer (some ⟨w.heap.size, 4, none⟩)) (by kernel_rfl) (fun W => by go_simp) ?_
    try simp only [Act.put, List.setIfInBounds_toArray, List.set_cons_zero, List.set_cons_succ]
    refine ql 23 (.tmp 39) rfl w.heap.size 4 (digV r.d) rfl (fun W h => run_loadVar_mid W w.heap.size 4 23 _ _ (HRK3.out W h).d Tryz.underlying23 rfl (by rw [size23, digV_length, hd])) (by kernel_rfl) ?_
    try simp only [Act.put, List.setIfInBounds_toArray, List.set_cons_zero, List.set_cons_succ]
    refine qv (.agg (digV zeroD).toArray) (by kernel_rfl) (fun W => by have hl := run_build (P := Tryz.prog) W 23 #[] _ built_zeroD; simp only [execOp, Array.map_empty, Sem.run_bind, hl, Result.andThen_ok, Sem.run_pure]) ?_
    try simp only [Act.put, List.setIfInBounds_toArray, List.set_cons_zero, List.set_cons_succ]
    refine qv (.bool (!(r.d == zeroD))) (by kernel_rfl) (fun W => by have hz := zeroD_length; go_simp) ?_
    try simp only [Act.put, List.setIfInBounds_toArray, List.set_cons_zero, List.set_cons_succ]
    refine qv (.pointer (some ⟨w.heap.size, 4, none⟩)) (by kernel_rfl) (fun W => by go_simp) ?_
    try simp only [Act.put, List.setIfInBounds_toArray, List.set_cons_zero, List.set_cons_succ]
    refine ql 23 (.tmp 43) rfl w.heap.size 4 (digV r.d) rfl (fun W h => run_loadVar_mid W w.heap.size 4 23 _ _ (HRK3.out W h).d Tryz.underlying23 rfl (by rw [size23, digV_length, hd])) (by kernel_rfl) ?_
    try simp only [Act.put, List.setIfInBounds_toArray, List.set_cons_zero, List.set_cons_succ]
    refine qc (.string ⟨(digT r.d).toArray⟩) 28 #[.agg (digV r.d).toArray] (by kernel_rfl) (fun W => by go_simp) (fun W h => grown_call h (digText_calls r.d W hd)) ?_
    try simp only [Act.put, List.setIfInBounds_toArray, List.set_cons_zero, List.set_cons_succ]
    refine wpQuiet_nil fun y3 hy3 => ?_
    have HC3 := Lib.hid (tell_calls w0.heap.size w0.heap.size (repTo r 3) (!(r.d == zeroD)) [100, 105, 103, 101, 115, 116] (digT r.d) y3 (HIB3.out y3 hy3) (by have := HLEN.out; first | omega | exact Nat.le_trans (Nat.le_refl 2) (by decide)) (by decide) (by rw [digT_length, hd]; omega) (Nat.le_trans HBB3.out.size hy3.size))
    have HY3 := Lib.hid (HBB3.out.trans (hy3.mono HBB3.out.size))
    clear hy3 HRK3 HOK3 HIB3
    go_upto_region 10 with (first | (go_at_call 26; refine HC3.out.mono ?_; rintro e x4 ⟨rfl, hbd, hbx⟩; have HBD4 : Hid (Lib.IsBuilder 62 5 w0.heap.size w0.heap.size (Lib.byteCells (repTo r 4)) x4) := hbd; have HBB4 := Lib.hid (HY3.out.trans hbx); clear hbd hbx))
    have HRK4 : Hid (∀ W, Below x4.heap.size x4 W → RepAt W w.heap.size r (.slice A r.b.length c1) (.slice A2 r.l.length c2)) := fun W hW => HR0.out.below (HBB4.out.trans (hW.mono HBB4.out.size))
    have HOK4 : Hid (∀ W, Below x4.heap.size x4 W → RepOk W r A c1 A2 c2 ∧ Pow W) := fun W hW => ⟨H0.out.below (HBB4.out.trans (hW.mono HBB4.out.size)), HP0.out.below (HBB4.out.trans (hW.mono HBB4.out.size))⟩
    have HIB4 : Hid (∀ W, Below x4.heap.size x4 W → Lib.IsBuilder 62 5 w0.heap.size w0.heap.size (Lib.byteCells (repTo r 4)) W) := fun W hW => isBuilder_later HBD4.out hW
    refine wp_region_tail 9 (by kernel_rfl) ?_
    simp only [List.take_succ_cons, List.take_zero, List.drop_succ_cons, List.drop_zero]
    refine qv (.func (.func 26) #[] #[.pointer (some ⟨w0.heap.size, 0, none⟩)]) (by kernel_rfl) (fun W => rfl) ?_
    try simp only [Act.put, List.setIfInBounds_toArray, List.set_cons_zero, List.set_cons_succ]
    refine qv (.pointer (some ⟨w.heap.size, 36, none⟩)) (by kernel_rfl) (fun W => by go_simp) ?_
    try simp only [Act.put, List.setIfInBounds_toArray, List.set_cons_zero, List.set_cons_succ]
    refine qr (.slice A r.b.length c1) (by kernel_rfl) (fun W h => by have := (HRK4.out W h).dat; go_simp) ?_
    try simp only [Act.put, List.setIfInBounds_toArray, List.set_cons_zero, List.set_cons_succ]
    refine qv (.int .i64 r.b.length) (by kernel_rfl) (fun W => by go_simp) ?_
    try simp only [Act.put, List.setIfInBounds_toArray, List.set_cons_zero, List.set_cons_succ]
    refine qv (.bool (someB r.b.length)) (by kernel_rfl) (fun W => by unfold someB; go_simp) ?_
    try simp only [Act.put, List.setIfInBounds_toArray, List.set_cons_zero, List.set_cons_succ]
    refine qv (.pointer (some ⟨w.heap.size, 36, none⟩)) (by kernel_rfl) (fun W => by go_simp) ?_
    try simp only [Act.put, List.setIfInBounds_toArray, List.set_cons_zero, List.set_cons_succ]
    refine qr (.slice A r.b.length c1) (by kernel_rfl) (fun W h => by have := (HRK4.out W h).dat; go_simp) ?_
    try simp only [Act.put, List.setIfInBounds_toArray, List.set_cons_zero, List.set_cons_succ]
    refine qc (.string ⟨(hexL r.b).toArray⟩) 29 #[.slice A r.b.length c1] (by kernel_rfl) (fun W => by go_simp) (fun W h => grown_call h (hexText_calls A c1 r.b W H0.out.bl (HOK4.out W h).1.data)) ?_
    try simp only [Act.put, List.setIfInBounds_toArray, List.set_cons_zero, List.set_cons_succ]
    refine qv (.string ⟨(120 :: hexL r.b).toArray⟩) (by kernel_rfl) (fun W => by have e : ((⟨[120].toArray⟩ : ByteArray) ++ ⟨(hexL r.b).toArray⟩) = ⟨(120 :: hexL r.b).toArray⟩ := (by rw [lits]; rfl); rw [← e]; go_simp) ?_
    try simp only [Act.put, List.setIfInBounds_toArray, List.set_cons_zero, List.set_cons_succ]
    refine wpQuiet_nil fun y4 hy4 => ?_
    have HC4 := Lib.hid (tell_calls w0.heap.size w0.heap.size (repTo r 4) (someB r.b.length) [100, 97, 116, 97] (120 :: hexL r.b) y4 (HIB4.out y4 hy4) (by have := HLEN.out; first | omega | exact Nat.le_trans (Nat.le_refl 2) (by decide)) (by decide) (by rw [List.length_cons, hexL_length]; have := H0.out.bl; omega) (Nat.le_trans HBB4.out.size hy4.size))
    have HY4 := Lib.hid (HBB4.out.trans (hy4.mono HBB4.out.size))
    clear hy4 HRK4 HOK4 HIB4
    go_upto_region 11 with (first | (go_at_call 26; refine HC4.out.mono ?_; rintro e x5 ⟨rfl, hbd, hbx⟩; have HBD5 : Hid (Lib.IsBuilder 62 5 w0.heap.size w0.heap.size (Lib.byteCells (repTo r 5)) x5) := hbd; have HBB5 := Lib.hid (HY4.out.trans hbx); clear hbd hbx))
    have HRK5 : Hid (∀ W, Below x5.heap.size x5 W → RepAt W w.heap.size r (.slice A r.b.length c1) (.slice A2 r.l.length c2)) := fun W hW => HR0.out.below (HBB5.out.trans (hW.mono HBB5.out.size))
    have HOK5 : Hid (∀ W, Below x5.heap.size x5 W → RepOk W r A c1 A2 c2 ∧ Pow W) := fun W hW => ⟨H0.out.below (HBB5.out.trans (hW.mono HBB5.out.size)), HP0.out.below (HBB5.out.trans (hW.mono HBB5.out.size))⟩
    have HIB5 : Hid (∀ W, Below x5.heap.size x5 W → Lib.IsBuilder 62 5 w0.heap.size w0.heap.size (Lib.byteCells (repTo r 5)) W) := fun W hW => isBuilder_later HBD5.out hW
    refine wp_region_tail 8 (by kernel_rfl) ?_
    simp only [List.take_succ_cons, List.take_zero, List.drop_succ_cons, List.drop_zero]
    refine qv (.func (.func 26) #[] #[.pointer (some ⟨w0.heap.size, 0, none⟩)]) (by kernel_rfl) (fun W => rfl) ?_
    try simp only [Act.put, List.setIfInBounds_toArray, List.set_cons_zero, List.set_cons_succ]
    refine qv (.pointer (some ⟨w.heap.size, 37, none⟩)) (by kernel_rfl) (fun W => by go_simp) ?_
    try simp only [Act.put, List.setIfInBounds_toArray, List.set_cons_zero, List.set_cons_succ]
    refine qr (.slice A2 r.l.length c2) (by kernel_rfl) (fun W h => by have := (HRK5.out W h).nam; go_simp) ?_
    try simp only [Act.put, List.setIfInBounds_toArray, List.set_cons_zero, List.set_cons_succ]
    refine qv (.int .i64 r.l.length) (by kernel_rfl) (fun W => by go_simp) ?_
    try simp only [Act.put, List.setIfInBounds_toArray, List.set_cons_zero, List.set_cons_succ]
    refine qv (.bool (someB r.l.length)) (by kernel_rfl) (fun W => by unfold someB; go_simp) ?_
    try simp only [Act.put, List.setIfInBounds_toArray, List.set_cons_zero, List.set_cons_succ]
    refine qv (.pointer (some ⟨w.heap.size, 37, none⟩)) (by kernel_rfl) (fun W => by go_simp) ?_
    try simp only [Act.put, List.setIfInBounds_toArray, List.set_cons_zero, List.set_cons_succ]
    refine qr (.slice A2 r.l.length c2) (by kernel_rfl) (fun W h => by have := (HRK5.out W h).nam; go_simp) ?_
    try simp only [Act.put, List.setIfInBounds_toArray, List.set_cons_zero, List.set_cons_succ]
    refine qc (.string ⟨(joinC 44 r.l).toArray⟩) 30 #[.slice A2 r.l.length c2, .string ⟨#[44]⟩] (by kernel_rfl) (fun W => by go_simp) (fun W h => grown_call h (join_calls A2 c2 r.l W (HOK5.out W h).1.names H0.out.cap H0.out.ll H0.out.jl)) ?_
    try simp only [Act.put, List.setIfInBounds_toArray, List.set_cons_zero, List.set_cons_succ]
    refine wpQuiet_nil fun y5 hy5 => ?_
    have HC5 := Lib.hid (tell_calls w0.heap.size w0.heap.size (repTo r 5) (someB r.l.length) [110, 97, 109, 101, 115] (joinC 44 r.l) y5 (HIB5.out y5 hy5) (by have := HLEN.out; first | omega | exact Nat.le_trans (Nat.le_refl 2) (by decide)) (by decide) (by have := H0.out.jl; omega) (Nat.le_trans HBB5.out.size hy5.size))
    have HY5 := Lib.hid (HBB5.out.trans (hy5.mono HBB5.out.size))
    clear hy5 HRK5 HOK5 HIB5
    go_upto_region 12 with (first | (go_at_call 26; refine HC5.out.mono ?_; rintro e x6 ⟨rfl, hbd, hbx⟩; have HBD6 : Hid (Lib.IsBuilder 62 5 w0.heap.size w0.heap.size (Lib.byteCells (repTo r 6)) x6) := hbd; have HBB6 := Lib.hid (HY5.out.trans hbx); clear hbd hbx))
    have HST := Lib.hid (Tryz.Builder_String_any w0.heap.size w0.heap.size (repTo r 6) x6 HBD6.out HBB6.out.size)
    have HLN := Lib.hid (repTo_line r HZ.out)
    go_wp2_with (first | (go_at_call 31; refine HST.out.mono ?_; rintro e x7 ⟨rfl, hb7⟩))
    go_ret
    exact ⟨by rw [HLN.out]; rfl, HB0.out.trans ((HBB6.out.trans hb7).mono HB0.out.size)⟩
  · have hq : ((r.e : Int) != 0) = true := by simpa using hz
    have HZ := Lib.hid hz
    have hf := h0.fits
    have hel := itoa_len r.e hf.1.1 hf.1.2
    have hl1 : ¬ 9223372036854775807 < 6 + (Lib.itoa r.e).length := by omega
    have HLN : Hid (replyL r = [101, 114, 114, 111, 114, 32] ++ Lib.itoa r.e) := by show replyL r = _; unfold replyL; rw [if_pos hz]
    have HIT := Lib.hid (fun W h => itoa_calls r.e hf.1.1 hf.1.2 W h)
    have HP0 := Lib.hid hP0
    have HB0 := Lib.hid hb0
    clear hz h hP hR h0 hP0 hb0 hf hel hn0
    go_enter Tryz.func11, Tryz.ntmps11
    go_wp2_with (first | (go_at_call 25; refine (HIT.out _ HP0.out).mono ?_; rintro e x7 ⟨rfl, hb7⟩))
    go_ret
    refine ⟨?_, HB0.out.trans (hb7.mono HB0.out.size)⟩
    rw [HLN.out]
    show Ending.returned (.string (({ data := [101, 114, 114, 111, 114, 32].toArray } : ByteArray) ++ { data := (Lib.itoa r.e).toArray })) = _
    rw [lits]
end Go.Proofs.YtjplfkcelkijfaaGreatDoor
