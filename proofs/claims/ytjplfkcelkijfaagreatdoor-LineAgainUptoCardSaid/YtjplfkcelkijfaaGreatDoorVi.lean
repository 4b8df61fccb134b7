/- The reference's Reply: a reply's line. Condition: data of at most 1048576 bytes, names of at most 4194304 bytes in all. -/
import Derived.Deep.CutRange
import Derived.Test.YtjplfkcelkijfaaGreatDoorVh
namespace Go.Proofs.YtjplfkcelkijfaaGreatDoor
open Go.RowKit
attribute [local go_sem] equalIn_dig eqGuard39

theorem rep_step {r : RepV} {k : Nat} {word s : List UInt8} (h : pieceL r k = tellL true word s) : (⟨(repTo r k).toArray⟩ : ByteArray) ++ ((⟨(32 :: (word ++ [61])).toArray⟩ : ByteArray) ++ ⟨s.toArray⟩) = ⟨(repTo r (k + 1)).toArray⟩ := by
  rw [lits, lits]
  show _ = (⟨(repTo r k ++ pieceL r k).toArray⟩ : ByteArray)
  rw [h]; simp [tellL]
theorem rep_skip {r : RepV} {k : Nat} {word s : List UInt8} (h : pieceL r k = tellL false word s) : repTo r (k + 1) = repTo r k := by
  show repTo r k ++ pieceL r k = _
  rw [h]; simp [tellL]
theorem joinC_snoc (c : UInt8) (x : List UInt8) : ∀ l : List (List UInt8), l ≠ [] → joinC c (l ++ [x]) = joinC c l ++ c :: x
  | [], h => absurd rfl h
  | [w], _ => rfl
  | w :: v :: r, _ => by
    show w ++ c :: joinC c ((v :: r) ++ [x]) = _
    rw [joinC_snoc c x (v :: r) (by simp)]
    show _ = (w ++ c :: joinC c (v :: r)) ++ c :: x
    simp
theorem joinC_take_le (c : UInt8) : ∀ (l : List (List UInt8)) (k : Nat), (joinC c (l.take k)).length ≤ (joinC c l).length
  | [], k => by simp
  | [w], 0 => by simp [joinC]
  | [w], k + 1 => by simp
  | w :: v :: r, 0 => by simp [joinC]
  | w :: v :: r, 1 => by show w.length ≤ (w ++ c :: joinC c (v :: r)).length; simp
  | w :: v :: r, k + 2 => by
    have := joinC_take_le c (v :: r) (k + 1)
    show (w ++ c :: joinC c ((v :: r).take (k + 1))).length ≤ (w ++ c :: joinC c (v :: r)).length
    simp only [List.length_append, List.length_cons]; omega
/-- the line with the first names -/
def nameTo (r : RepV) (k : Nat) : List UInt8 := if k = 0 then repTo r 5 else repTo r 5 ++ ([32, 110, 97, 109, 101, 115, 61] ++ joinC 44 (r.l.take k))
theorem nameTo_all (r : RepV) : nameTo r r.l.length = repTo r 6 := by
  unfold nameTo
  show _ = repTo r 5 ++ tellL (someB r.l.length) [110, 97, 109, 101, 115] (joinC 44 r.l)
  unfold someB
  by_cases h : r.l.length = 0
  · rw [if_pos h, decide_eq_false (by omega)]; simp [tellL]
  · rw [if_neg h, decide_eq_true (by omega), List.take_length]; simp [tellL]
theorem nameTo_one {r : RepV} {x : List UInt8} (h : r.l[0]? = some x) : nameTo r 1 = (nameTo r 0 ++ [32, 110, 97, 109, 101, 115, 61]) ++ x := by
  unfold nameTo
  rw [if_neg (by omega), if_pos rfl, List.take_add_one, h]
  simp [joinC]
theorem nameTo_more {r : RepV} {k : Nat} {x : List UInt8} (hk : k ≠ 0) (h : r.l[k]? = some x) : nameTo r (k + 1) = (nameTo r k ++ [44]) ++ x := by
  unfold nameTo
  have hne : r.l.take k ≠ [] := by
    intro e
    have h3 : (r.l.take k).length = min k r.l.length := List.length_take
    have hk2 := (List.getElem?_eq_some_iff.1 h).1
    rw [e, List.length_nil] at h3
    omega
  rw [if_neg (by omega), if_neg hk, List.take_add_one, h]
  show repTo r 5 ++ ([32, 110, 97, 109, 101, 115, 61] ++ joinC 44 (r.l.take k ++ [x])) = _
  rw [joinC_snoc 44 x _ hne]
  simp
theorem nameTo_len (r : RepV) (k : Nat) : (nameTo r k).length ≤ (repTo r 5).length + 7 + (joinC 44 r.l).length := by
  unfold nameTo
  split
  · omega
  · have := joinC_take_le 44 r.l k
    simp only [List.length_append, List.length_cons, List.length_nil]; omega
set_option maxHeartbeats 4000000 in
set_option maxRecDepth 100000 in
theorem refReply_calls (r : RepV) (A : Option Addr) (c1 : Nat) (A2 : Option Addr) (c2 : Nat) (w : World) (h : RepOk w r A c1 A2 c2) :
    Calls Tryz.prog 12 #[.agg (repS r A c1 A2 c2).toArray] w fun e w' => e = .returned (.string ⟨(replyL r).toArray⟩) ∧ Below w.heap.size w w' := by
  have hb0 : Below w.heap.size w (w.alloc (.cells (repS r A c1 A2 c2).toArray 37)) := (Below.refl _ _).alloc (Nat.le_refl _) _
  have hR := repAt_new w r (.slice A r.b.length c1) (.slice A2 r.l.length c2) h.fits.2.2.2.2
  have h0 := h.below hb0
  have he := hR.e
  have hf := h0.fits
  have HNUM := Lib.hid (fun x W h0 h1 => num_calls x W h0 h1)
  by_cases hz : r.e = 0
  · have hq : ((r.e : Int) != 0) = false := by rw [hz]; rfl
    have HZ := Lib.hid hz
    have hd := hf.2.2.2.2
    have hzd := zeroD_length
    have hlen := repTo_len h0.fits h0.bl h0.jl
    have HLEN := Lib.hid hlen
    have HI1 := hf.2.1
    have HI2 := hf.2.2.1
    have HI3 := hf.2.2.2.1
    have l1 := itoa_len r.i HI1.1 HI1.2
    have l2 := itoa_len r.k HI2.1 HI2.2
    have l3 := itoa_len r.n HI3.1 HI3.2
    clear hz h hf
    go_enter Tryz.func12, Tryz.ntmps12
    go_upto_region 4 with (fail)
    generalize w.alloc (.cells (repS r A c1 A2 c2).toArray 37) = w0 at *
    have HR0 := Lib.hid hR
    have H0 := Lib.hid h0
    have HB0 := Lib.hid hb0
    have HBB0 : Hid (Below w0.heap.size w0 w0) := Below.refl _ _
    rw [show (⟨#[111, 107]⟩ : ByteArray) = ⟨(repTo r 0).toArray⟩ from rfl]
    clear hR h0 hb0 he hq hlen
    have HR0' := HR0.out.below HBB0.out
    have hc0 := HR0'.i
    clear HR0'
    go_upto_if 15 with (fail)
    go_cut [3] from 15 to 21 (fun s wc => s = .string ⟨(repTo r 1).toArray⟩ ∧ Hid (Below w0.heap.size w0 wc))
    case first =>
      by_cases hz : r.i ≠ 0
      · have hq : ((r.i : Int) != 0) = true := by simpa using hz
        have HS : Hid ((⟨(repTo r 0).toArray⟩ : ByteArray) ++ ((⟨#[32, 105, 100, 61]⟩ : ByteArray) ++ ⟨(Lib.itoa r.i).toArray⟩) = ⟨(repTo r 1).toArray⟩) := rep_step (word := [105, 100]) (by show tellL _ _ _ = _; rw [hq])
        have hl1 : ¬ 9223372036854775807 < 4 + (Lib.itoa r.i).length := by omega
        have hl2 : ¬ 9223372036854775807 < (repTo r 0).length + (4 + (Lib.itoa r.i).length) := by have := HLEN.out; have h0l : (repTo r 0).length = 2 := rfl; omega
        clear hz
        go_wp2_with (first | (go_at_call 32; refine (HNUM.out r.i _ HI1.1 HI1.2).mono ?_; rintro e x ⟨rfl, hx⟩; have HX : Hid (Below w0.heap.size w0 x) := HBB0.out.trans (hx.mono HBB0.out.size); clear hx))
        go_meet
        case rel => exact ⟨congrArg Value.string HS.out, HX.out⟩
      · have hq : ((r.i : Int) != 0) = false := by simpa using hz
        have HS : Hid (repTo r 1 = repTo r 0) := rep_skip (word := [105, 100]) (s := (Lib.itoa r.i)) (by show tellL _ _ _ = _; rw [hq])
        go_wp2_with fail
        go_meet
        case rel => exact ⟨by rw [HS.out], HBB0⟩
    obtain ⟨rfl, HBB1⟩ := hcut
    obtain ⟨w1, hww⟩ : ∃ x, x = wc := ⟨_, rfl⟩
    subst hww
    have HR1' := HR0.out.below HBB1.out
    have hc1 := HR1'.k
    clear HR1'
    go_upto_if 24 with (fail)
    go_cut [3] from 24 to 30 (fun s wc => s = .string ⟨(repTo r 2).toArray⟩ ∧ Hid (Below w0.heap.size w0 wc))
    case first =>
      by_cases hz : r.k ≠ 0
      · have hq : ((r.k : Int) != 0) = true := by simpa using hz
        have HS : Hid ((⟨(repTo r 1).toArray⟩ : ByteArray) ++ ((⟨#[32, 107, 105, 110, 100, 61]⟩ : ByteArray) ++ ⟨(Lib.itoa r.k).toArray⟩) = ⟨(repTo r 2).toArray⟩) := rep_step (word := [107, 105, 110, 100]) (by show tellL _ _ _ = _; rw [hq])
        have hl1 : ¬ 9223372036854775807 < 6 + (Lib.itoa r.k).length := by omega
        have hl2 : ¬ 9223372036854775807 < (repTo r 1).length + (6 + (Lib.itoa r.k).length) := by have := HLEN.out; have h0l : (repTo r 0).length = 2 := rfl; omega
        clear hz
        go_wp2_with (first | (go_at_call 32; refine (HNUM.out r.k _ HI2.1 HI2.2).mono ?_; rintro e x ⟨rfl, hx⟩; have HX : Hid (Below w0.heap.size w0 x) := HBB1.out.trans (hx.mono HBB1.out.size); clear hx))
        go_meet
        case rel => exact ⟨congrArg Value.string HS.out, HX.out⟩
      · have hq : ((r.k : Int) != 0) = false := by simpa using hz
        have HS : Hid (repTo r 2 = repTo r 1) := rep_skip (word := [107, 105, 110, 100]) (s := (Lib.itoa r.k)) (by show tellL _ _ _ = _; rw [hq])
        go_wp2_with fail
        go_meet
        case rel => exact ⟨by rw [HS.out], HBB1⟩
    obtain ⟨rfl, HBB2⟩ := hcut
    obtain ⟨w2, hww⟩ : ∃ x, x = wc := ⟨_, rfl⟩
    subst hww
    have HR2' := HR0.out.below HBB2.out
    have hc2 := HR2'.n
    clear HR2'
    go_upto_if 33 with (fail)
    go_cut [3] from 33 to 39 (fun s wc => s = .string ⟨(repTo r 3).toArray⟩ ∧ Hid (Below w0.heap.size w0 wc))
    case first =>
      by_cases hz : r.n ≠ 0
      · have hq : ((r.n : Int) != 0) = true := by simpa using hz
        have HS : Hid ((⟨(repTo r 2).toArray⟩ : ByteArray) ++ ((⟨#[32, 110, 61]⟩ : ByteArray) ++ ⟨(Lib.itoa r.n).toArray⟩) = ⟨(repTo r 3).toArray⟩) := rep_step (word := [110]) (by show tellL _ _ _ = _; rw [hq])
        have hl1 : ¬ 9223372036854775807 < 3 + (Lib.itoa r.n).length := by omega
        have hl2 : ¬ 9223372036854775807 < (repTo r 2).length + (3 + (Lib.itoa r.n).length) := by have := HLEN.out; have h0l : (repTo r 0).length = 2 := rfl; omega
        clear hz
        go_wp2_with (first | (go_at_call 32; refine (HNUM.out r.n _ HI3.1 HI3.2).mono ?_; rintro e x ⟨rfl, hx⟩; have HX : Hid (Below w0.heap.size w0 x) := HBB2.out.trans (hx.mono HBB2.out.size); clear hx))
        go_meet
        case rel => exact ⟨congrArg Value.string HS.out, HX.out⟩
      · have hq : ((r.n : Int) != 0) = false := by simpa using hz
        have HS : Hid (repTo r 3 = repTo r 2) := rep_skip (word := [110]) (s := (Lib.itoa r.n)) (by show tellL _ _ _ = _; rw [hq])
        go_wp2_with fail
        go_meet
        case rel => exact ⟨by rw [HS.out], HBB2⟩
    obtain ⟨rfl, HBB3⟩ := hcut
    obtain ⟨w3, hww⟩ : ∃ x, x = wc := ⟨_, rfl⟩
    subst hww
    have HR3' := HR0.out.below HBB3.out
    have hc3 := HR3'.d
    have HD3 := Lib.hid hc3
    clear hc3
    have HB3Z : Hid (Below w3.heap.size w3 ((w3.alloc (.cells (digV zeroD).toArray 23)).setRow w3.heap.size (digV zeroD).toArray)) := below_setRow ((Below.refl _ _).alloc (Nat.le_refl _) _) (Nat.le_refl _) _
    clear HR3'
    go_upto_if 44 with (first | (with_reducible refine wpList_alloc_dig ?_) | (with_reducible refine wpList_build_dig ?_) | ((with_reducible apply wpList_store_dig w3.heap.size zeroD zeroD zeroD_length zeroD_length); rfl; rfl; exact World.alloc_heap_new _ _) | ((with_reducible apply wpList_load_dig w.heap.size 4 r.d); rfl; exact rangeAt_below HD3.out HB3Z.out; exact hd) | ((with_reducible apply wpList_load_dig w3.heap.size 0 zeroD); rfl; exact rangeAt_of_row (setRow_heap _ _ _ _ _ _ (World.alloc_heap_new _ _)); exact zeroD_length))
    go_cut [3] from 44 to 50 (fun s wc => s = .string ⟨(repTo r 4).toArray⟩ ∧ Hid (Below w0.heap.size w0 wc))
    case first =>
      rcases hbb : (!(r.d == zeroD)) with _ | _; rotate_left
      · have HBQ := Lib.hid hbb; clear hbb
        have HS : Hid ((⟨(repTo r 3).toArray⟩ : ByteArray) ++ ((⟨#[32, 100, 105, 103, 101, 115, 116, 61]⟩ : ByteArray) ++ ⟨(digT r.d).toArray⟩) = ⟨(repTo r 4).toArray⟩) := rep_step (word := [100, 105, 103, 101, 115, 116]) (by show tellL _ _ _ = _; rw [HBQ.out])
        have hl1 : ¬ 9223372036854775807 < 8 + (digT r.d).length := by have hdl := digT_length r.d; rw [hd] at hdl; omega
        have hl2 : ¬ 9223372036854775807 < (repTo r 3).length + (8 + (digT r.d).length) := by have := HLEN.out; have h0l : (repTo r 0).length = 2 := rfl; have hdl := digT_length r.d; rw [hd] at hdl; omega
        go_wp2_with (first | ((with_reducible apply wpList_load_dig w.heap.size 4 r.d); rfl; exact rangeAt_below HD3.out HB3Z.out; exact hd) | (go_at_call 33; refine (refDig_calls r.d _ hd).mono ?_; rintro e x ⟨rfl, hx⟩; have HX : Hid (Below w0.heap.size w0 x) := (HBB3.out.trans (HB3Z.out.mono HBB3.out.size)).trans (hx.mono (Nat.le_trans HBB3.out.size HB3Z.out.size)); clear hx))
        go_meet
        case rel => exact ⟨congrArg Value.string HS.out, HX.out⟩
      · have HBQ := Lib.hid hbb; clear hbb
        have HS : Hid (repTo r 4 = repTo r 3) := rep_skip (word := [100, 105, 103, 101, 115, 116]) (s := (digT r.d)) (by show tellL _ _ _ = _; rw [HBQ.out])
        go_wp2_with fail
        go_meet
        case rel => exact ⟨by rw [HS.out], HBB3.out.trans (HB3Z.out.mono HBB3.out.size)⟩
    obtain ⟨rfl, HBB4⟩ := hcut
    obtain ⟨w4, hww⟩ : ∃ x, x = wc := ⟨_, rfl⟩
    subst hww
    have HR4' := HR0.out.below HBB4.out
    have hc4 := HR4'.dat
    clear HR4'
    go_upto_if 54 with (fail)
    go_cut [3] from 54 to 60 (fun s wc => s = .string ⟨(repTo r 5).toArray⟩ ∧ Hid (Below w0.heap.size w0 wc))
    case first =>
      by_cases hz : 0 < r.b.length
      · have hqi : (0 : Int) < r.b.length := by omega
        have hsb : someB r.b.length = true := by unfold someB; exact decide_eq_true hqi
        have HS : Hid ((⟨(repTo r 4).toArray⟩ : ByteArray) ++ ((⟨#[32, 100, 97, 116, 97, 61, 120]⟩ : ByteArray) ++ ⟨(hexL r.b).toArray⟩) = ⟨(repTo r 5).toArray⟩) := by
          show _ = _
          rw [show (⟨#[32, 100, 97, 116, 97, 61, 120]⟩ : ByteArray) = ⟨[32, 100, 97, 116, 97, 61, 120].toArray⟩ from rfl, lits, lits]
          show _ = (⟨(repTo r 4 ++ pieceL r 4).toArray⟩ : ByteArray)
          simp only [pieceL, hsb]; rfl
        have hhl := hexL_length r.b
        have hl1 : ¬ 9223372036854775807 < 7 + (hexL r.b).length := by have := H0.out.bl; omega
        have hl2 : ¬ 9223372036854775807 < (repTo r 4).length + (7 + (hexL r.b).length) := by have := HLEN.out; have := H0.out.bl; omega
        clear hsb hhl
        go_wp2_with (first | (go_at_call 34; refine (refHex_calls A c1 r.b _ H0.out.bl (H0.out.data.below HBB4.out)).mono ?_; rintro e x ⟨rfl, hx⟩; have HX : Hid (Below w0.heap.size w0 x) := HBB4.out.trans (hx.mono HBB4.out.size); clear hx))
        go_meet
        case rel => exact ⟨congrArg Value.string HS.out, HX.out⟩
      · have hqi : ¬ (0 : Int) < r.b.length := by omega
        have HS : Hid (repTo r 5 = repTo r 4) := rep_skip (word := [100, 97, 116, 97]) (s := (120 :: hexL r.b)) (by show tellL _ _ _ = _; rw [show someB r.b.length = false by unfold someB; exact decide_eq_false (by omega)])
        go_wp2_with fail
        go_meet
        case rel => exact ⟨by rw [HS.out], HBB4⟩
    obtain ⟨rfl, HBB5⟩ := hcut
    obtain ⟨w5, hww⟩ : ∃ x, x = wc := ⟨_, rfl⟩
    subst hww
    have hnam := (HR0.out.below HBB5.out).nam
    have HNM := Lib.hid (H0.out.names.below HBB5.out)
    have hll : (r.l.length : Int) ≤ 4194304 := by have := H0.out.ll; omega
    have HNL := Lib.hid (nameTo_len r)
    have HLN := Lib.hid (repTo_line r HZ.out)
    have HJL := Lib.hid H0.out.jl
    have HBE := Lib.hid (HB0.out.trans (HBB5.out.mono HB0.out.size))
    clear hc0 hc1 hc2 hc4
    rw [show repTo r 5 = nameTo r 0 from rfl]
    go_wp2_with fail
    go_loop [3, 5] (fun s c => ∃ k : Nat, c = .int .i64 k ∧ s = .string ⟨(nameTo r k).toArray⟩ ∧ (k : Int) ≤ r.l.length) (fun _ c => r.l.length - (intOf c).toNat)
    case atStart => exact ⟨0, rfl, rfl, by omega⟩
    case round =>
      obtain ⟨k, rfl, rfl, hk⟩ := hrel
      by_cases hlt : (k : Int) < r.l.length
      · obtain ⟨x, hx⟩ : ∃ x, r.l[k]? = some x := ⟨_, List.getElem?_eq_getElem (by omega)⟩
        obtain ⟨a, c', ea, hcl⟩ := HNM.out
        obtain ⟨g, o, rfl, hcx⟩ := hcl k x hx
        injection ea with ea _ _
        subst ea
        have hnl0 := HNL.out k
        have hnl1 := HNL.out (k + 1)
        have hlen := HLEN.out
        have hjl := HJL.out
        by_cases hk0 : k = 0
        · subst hk0
          rw [Nat.add_zero] at hcx
          have hlt0 : 0 < r.l.length := by omega
          have hlt1 : (0 : Int) < r.l.length := by omega
          have hnl2 := HNL.out 1
          have h1 := nameTo_one hx
          have HS : Hid (((⟨(nameTo r 0).toArray⟩ : ByteArray) ++ ⟨#[32, 110, 97, 109, 101, 115, 61]⟩) ++ ⟨x.toArray⟩ = ⟨(nameTo r 1).toArray⟩) := by
            show _ = _
            rw [show (⟨#[32, 110, 97, 109, 101, 115, 61]⟩ : ByteArray) = ⟨[32, 110, 97, 109, 101, 115, 61].toArray⟩ from rfl, lits, lits, h1]
          have hle : (nameTo r 1).length = (nameTo r 0).length + 7 + x.length := by rw [h1, List.length_append, List.length_append]; rfl
          have hl1 : ¬ 9223372036854775807 < (nameTo r 0).length + 7 := by omega
          have hl2 : ¬ 9223372036854775807 < (nameTo r 0).length + 7 + x.length := by omega
          clear h1 hle hnl0 hnl1 hnl2 hlen hjl hx hcl
          go_wp2_with fail
          go_round
          case rel => exact ⟨1, rfl, congrArg Value.string HS.out, by omega⟩
          case measure => simp [intOf]; omega
        · have hq : ((k : Int) == 0) = false := by rw [beq_eq_false_iff_ne]; omega
          have h1 := nameTo_more hk0 hx
          have HS : Hid (((⟨(nameTo r k).toArray⟩ : ByteArray) ++ ⟨#[44]⟩) ++ ⟨x.toArray⟩ = ⟨(nameTo r (k + 1)).toArray⟩) := by
            show _ = _
            rw [show (⟨#[44]⟩ : ByteArray) = ⟨[44].toArray⟩ from rfl, lits, lits, h1]
          have hle : (nameTo r (k + 1)).length = (nameTo r k).length + 1 + x.length := by rw [h1, List.length_append, List.length_append]; rfl
          have hl1 : ¬ 9223372036854775807 < (nameTo r k).length + 1 := by omega
          have hl2 : ¬ 9223372036854775807 < (nameTo r k).length + 1 + x.length := by omega
          clear h1 hle hnl0 hnl1 hlen hjl hx hcl hk0
          go_wp2_with fail
          go_round
          case rel => exact ⟨k + 1, by go_num, congrArg Value.string HS.out, by omega⟩
          case measure => simp [intOf]; omega
      · have HK : Hid (nameTo r k = replyL r) := by
          show _ = _
          rw [HLN.out, ← nameTo_all, show k = r.l.length by omega]
        go_wp2_with fail
        go_ret
        exact ⟨by rw [← HK.out]; rfl, HBE.out⟩
  · have hq : ((r.e : Int) != 0) = true := by simpa using hz
    have hel := itoa_len r.e hf.1.1 hf.1.2
    have hl1 : ¬ 9223372036854775807 < 6 + (Lib.itoa r.e).length := by omega
    have HLN : Hid (replyL r = [101, 114, 114, 111, 114, 32] ++ Lib.itoa r.e) := by show replyL r = _; unfold replyL; rw [if_pos hz]
    have HIT := Lib.hid (fun W => num_calls r.e W hf.1.1 hf.1.2)
    have HB0 := Lib.hid hb0
    clear hz h hR h0 hb0 hf hel
    go_enter Tryz.func12, Tryz.ntmps12
    go_wp2_with (first | (go_at_call 32; refine (HIT.out _).mono ?_; rintro e x7 ⟨rfl, hb7⟩))
    go_ret
    refine ⟨?_, HB0.out.trans (hb7.mono HB0.out.size)⟩
    rw [HLN.out]
    show Ending.returned (.string (({ data := [101, 114, 114, 111, 114, 32].toArray } : ByteArray) ++ { data := (Lib.itoa r.e).toArray })) = _
    rw [lits]
end Go.Proofs.YtjplfkcelkijfaaGreatDoor
