/- manifest.twice and strconv.Itoa: for every row of references and every number. -/
import Derived.Lib.LaidTab
import Derived.Lib.AppendIntMem
import Derived.Sort.Grow
import Derived.Test.YtolaecdopfmbgaaDoorG
namespace Go.Proofs.YtolaecdopfmbgaaDoor
open Go.RowKit

def Pow (w : World) : Prop := Lib.TabIs Tryd.prog w "internal/strconv.uint64pow10" .u64 Lib.pow10Tab
theorem Pow.below {w w' : World} (h : Pow w) (hb : Below w.heap.size w w') : Pow w' := Lib.tabBelow_of_tabIs h w' hb
theorem below_grow (w : World) (k : Nat) (os : Array Obj) : Below w.heap.size w (Sort.grow (w.drewN k) os) := by
  have h := below_drewN (Below.refl w.heap.size w) k
  refine ⟨h.os, h.tape, h.output, by rw [Sort.size_grow]; exact Nat.le_trans h.size (Nat.le_add_right _ _), fun j hj => ?_⟩
  rw [Sort.heap_grow_old _ _ (Nat.lt_of_lt_of_le hj h.size)]
  exact h.block j hj
theorem itoa_calls (n : Int) (h0 : -9223372036854775808 ≤ n) (h1 : n ≤ 9223372036854775807) (w : World) (hp : Pow w) :
    Calls Tryd.prog 28 #[.int .i64 n] w fun e w' => e = .returned (.string ⟨(Lib.itoa n).toArray⟩) ∧ Below w.heap.size w w' := by
  refine (Tryd.strconv_Itoa n h0 h1 w hp).mono ?_
  rintro e w' ⟨rfl, k, os, rfl⟩
  exact ⟨rfl, below_grow w k os⟩

set_option maxHeartbeats 1000000 in
set_option maxRecDepth 100000 in
theorem twice1_calls (r : Rf) (d : List UInt8) (g : Nat) (w : World) (hf : r.fits) (hd : d.length = 32) (hg : w.rangeAt g 0 (digV d)) :
    Calls Tryd.prog 48 #[.agg (refV r).toArray, .pointer (some ⟨g, 0, none⟩)] w fun e w' => e = .returned (.bool (r.d == d)) ∧ Below w.heap.size w w' := by
  have hr := range_d (rangeAt_new w (refV r) 41)
  rw [Nat.zero_add] at hr
  have RD := Lib.hid hr
  have RG := Lib.hid (rangeAt_below hg ((Below.refl _ _).alloc (Nat.le_refl _) (.cells (refV r).toArray 41)))
  have C1 := Lib.hid (show (Tryd.prog.info? 39).map (·.size) = some (digV r.d).length by rw [size39, digV_length, hf.1])
  have C2 := Lib.hid (show (Tryd.prog.info? 39).map (·.size) = some (digV d).length by rw [size39, digV_length, hd])
  have E1 := Lib.hid (equalIn_dig (w.alloc (.cells (refV r).toArray 41)) r.d d hf.1 hd)
  have hgd := eqGuard39
  clear hr hf hd hg
  go_enter Tryd.func48, Tryd.ntmps48
  go_wp2_with (first | (refine wpList_load_mid rfl 39 _ rfl w.heap.size 1 rfl (digV r.d) _ RD.out Tryd.underlying39 rfl C1.out ?_) | (refine wpList_load_mid rfl 39 _ rfl g 0 rfl (digV d) _ RG.out Tryd.underlying39 rfl C2.out ?_) | (rw [E1.out, Result.andThen_ok]))
  go_ret
  exact ⟨rfl, (Below.refl _ _).alloc (Nat.le_refl _) _⟩

set_option maxHeartbeats 1000000 in
set_option maxRecDepth 100000 in
theorem twice2_calls (A : Option Addr) (cap : Nat) (L : List Rf) (d : List UInt8) (g : Nat) (w : World) (hl : L.length ≤ 140737488351232) (hL : RefsIn w A L) (hd : d.length = 32) (hg : w.rangeAt g 0 (digV d)) :
    Calls Tryd.prog 76 #[.slice A L.length cap, .func (.func 48) #[] #[.pointer (some ⟨g, 0, none⟩)]] w fun e w' => (∃ x : Int, e = .returned (.int .i64 x) ∧ decide (x ≥ 0) = hasD L d) ∧ Below w.heap.size w w' := by
  have hl' : (L.length : Int) ≤ 140737488351232 := by omega
  have HD := Lib.hid hd
  clear hd hl
  go_enter Tryd.func76, Tryd.ntmps76
  go_wp2
  go_loopw [5, 8] (fun _ c wr => ∃ k : Nat, (k : Int) ≤ L.length ∧ c = .int .i64 k ∧ hasD (L.take k) d = false ∧ Below w.heap.size w wr) (fun _ c _ => L.length - (intOf c).toNat)
  case atStart => exact ⟨0, by omega, rfl, rfl, Below.refl _ _⟩
  case round =>
    obtain ⟨k, hk, rfl, hno, hb⟩ := hrel
    have hLr := hL.below hb
    have hgr := rangeAt_below hg hb
    have hsz := hb.size
    by_cases hlt : (k : Int) < L.length
    · obtain ⟨r, hr⟩ : ∃ r, L[k]? = some r := ⟨_, List.getElem?_eq_getElem (by omega)⟩
      obtain ⟨hf, b, o, rfl, hcr⟩ := hLr k r hr
      have H48 := Lib.hid (twice1_calls r d g wr hf HD.out hgr)
      have HCR := Lib.hid hcr
      have C41 := Lib.hid (show (Tryd.prog.info? 41).map (·.size) = some (refV r).length by rw [size41, refV_length hf])
      have HT := Lib.hid (hasD_take (d := d) hr)
      have HR := Lib.hid hr
      have HN := Lib.hid hno
      clear hr hno hf hcr hLr hgr hL hg
      generalize hq : (r.d == d) = q at H48
      have HQ := Lib.hid hq
      clear hq
      cases q
      · go_wp2_with (first | (refine wpList_load_mid rfl 41 _ rfl b (o + k * 34) rfl (refV r) _ HCR.out Tryd.underlying41 rfl C41.out ?_) | (go_at_call 48; refine H48.out.mono ?_; rintro e w2 ⟨rfl, hb2⟩))
        go_roundw
        case rel => exact ⟨k + 1, by omega, by go_num, by rw [HT.out, HN.out, HQ.out]; rfl, hb.trans (hb2.mono hsz)⟩
        case measure => simp [intOf]; omega
      · go_wp2_with (first | (refine wpList_load_mid rfl 41 _ rfl b (o + k * 34) rfl (refV r) _ HCR.out Tryd.underlying41 rfl C41.out ?_) | (go_at_call 48; refine H48.out.mono ?_; rintro e w2 ⟨rfl, hb2⟩))
        go_ret
        refine ⟨⟨_, rfl, ?_⟩, hb.trans (hb2.mono hsz)⟩
        rw [show hasD L d = true by rw [← List.take_length (l := L)]; exact hasD_of HR.out (by omega) HQ.out]
        simp
    · obtain rfl : k = L.length := by omega
      rw [List.take_length] at hno
      have HN := Lib.hid hno
      clear hno hLr hgr hL hg
      go_wp2
      go_ret
      exact ⟨⟨_, rfl, by rw [HN.out]; rfl⟩, hb⟩

set_option maxHeartbeats 1000000 in
set_option maxRecDepth 100000 in
theorem twice3_calls (A : Option Addr) (cap : Nat) (L : List Rf) (d : List UInt8) (g : Nat) (w : World) (hl : L.length ≤ 140737488351232) (hL : RefsIn w A L) (hd : d.length = 32) (hg : w.rangeAt g 0 (digV d)) :
    Calls Tryd.prog 47 #[.slice A L.length cap, .func (.func 48) #[] #[.pointer (some ⟨g, 0, none⟩)]] w fun e w' => e = .returned (.bool (hasD L d)) ∧ Below w.heap.size w w' := by
  have H := Lib.hid (twice2_calls A cap L d g w hl hL hd hg)
  clear hl hL hd hg
  go_enter Tryd.func47, Tryd.ntmps47
  go_wp2_with (go_at_call 76; refine H.out.mono ?_; rintro e w1 ⟨⟨x, rfl, hx⟩, hb⟩)
  go_ret
  exact ⟨rfl, hb⟩

set_option maxHeartbeats 1000000 in
set_option maxRecDepth 100000 in
theorem twice_calls (A : Option Addr) (cap : Nat) (L : List Rf) (d : List UInt8) (w : World) (hl : L.length ≤ 140737488351232) (hL : RefsIn w A L) (hd : d.length = 32) :
    Calls Tryd.prog 26 #[.slice A L.length cap, .agg (digV d).toArray] w fun e w' => e = .returned (.bool (hasD L d)) ∧ Below w.heap.size w w' := by
  have hb0 := (Below.refl w.heap.size w).alloc (Nat.le_refl _) (.cells (digV d).toArray 39)
  have H := Lib.hid (twice3_calls A cap L d w.heap.size (w.alloc (.cells (digV d).toArray 39)) hl (hL.below hb0) hd (rangeAt_new w _ _))
  clear hl hL hd
  go_enter Tryd.func26, Tryd.ntmps26
  go_wp2_with (go_at_call 47; refine H.out.mono ?_; rintro e w1 ⟨rfl, hb⟩)
  go_ret
  exact ⟨rfl, hb0.trans (hb.mono hb0.size)⟩
end Go.Proofs.YtolaecdopfmbgaaDoor
