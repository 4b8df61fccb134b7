/- The reference's Text: an operation's line. Condition: name and data of at most 1048576 bytes. -/
import Derived.Test.YtjplfkcelkijfaaDoorWc
namespace Go.Proofs.YtjplfkcelkijfaaDoor
open Go.RowKit

set_option maxHeartbeats 2000000 in
set_option maxRecDepth 100000 in
theorem refText_calls (x : OpV) (A : Option Addr) (cap : Nat) (w : World) (hx : x.fits) (hA : CellsIn w A (Lib.byteCells x.b)) (hl : x.b.length ≤ 1048576) (ht : x.t.length ≤ 1048576) :
    Calls Tryd.prog 6 #[.agg (opV x (.slice A x.b.length cap)).toArray] w fun e w' => e = .returned (.string ⟨(textL x).toArray⟩) ∧ Below w.heap.size w w' := by
  have hO := opAt_new w x (.slice A x.b.length cap) hx.2.2.2.2
  have hb0 : Below w.heap.size w (w.alloc (.cells (opV x (.slice A x.b.length cap)).toArray 26)) := (Below.refl _ _).alloc (Nat.le_refl _) _
  have hA0 := hA.below hb0
  have HS := Lib.hid (fun W => shape_calls x.k W hx.1.1 hx.1.2)
  have HN := Lib.hid (fun n W h0 h1 => num_calls n W h0 h1)
  have HD := Lib.hid (fun W => refDig_calls x.d W hx.2.2.2.2)
  have HX := Lib.hid (fun W h => refHex_calls A cap x.b W hl h)
  have hlen := fun j => soFar_len x j hx ht hl
  have HLEN := Lib.hid hlen
  have HFIT := Lib.hid hx
  have HT := Lib.hid ht
  clear hx hlen ht hA
  have hk0 := hO.k
  have hpl : ((partI x.k).length : Int) ≤ 3 := by have := partI_length x.k; omega
  generalize hL : (⟨((partI x.k).map letT).toArray⟩ : ByteArray) = L at HS
  have hLs : L.size = (partI x.k).length := by rw [← hL]; show ((partI x.k).map letT).toArray.size = _; simp
  have hLi : ∀ (j p : Nat), (partI x.k)[j]? = some p → ∀ h : j < L.size, (L[j]'h).toNat = (letT p).toNat := by
    subst hL
    intro j p hp h
    have e : ((partI x.k).map letT)[j]? = some (letT p) := by rw [List.getElem?_map, hp]; rfl
    obtain ⟨h', e'⟩ := List.getElem?_eq_some_iff.1 e
    rw [← e']; rfl
  have HLI := Lib.hid hLi
  have HLS := Lib.hid hLs
  have hls3 : (L.size : Int) ≤ 3 := by omega
  have hall := soFar_all x
  rw [← hLs] at hall
  have HALL := Lib.hid hall
  clear hLi hL hLs hall hpl
  go_enter Tryd.func6, Tryd.ntmps6
  go_wp2_with fail
  generalize w.alloc (.cells (opV x (.slice A x.b.length cap)).toArray 26) = w0 at *
  refine (HS.out w0).mono ?_
  rintro e w1 ⟨rfl, b1⟩
  have hO1 := Lib.hid (hO.below b1)
  have hA1 := Lib.hid (hA0.below b1)
  have HB1 := Lib.hid (hb0.trans (b1.mono hb0.size))
  have hs1 := HB1.out.size
  have hz0 := soFar_zero x
  rw [← hz0]
  clear hO hA0 hb0 hk0 b1 hz0
  go_wp2_with fail
  go_loopw [3, 5] (fun s c wr => ∃ j : Nat, c = .int .i64 j ∧ s = .string ⟨(soFar x j).toArray⟩ ∧ (j : Int) ≤ L.size ∧ Below w1.heap.size w1 wr) (fun _ c _ => L.size - (intOf c).toNat)
  case atStart => exact ⟨0, rfl, rfl, by omega, Below.refl _ _⟩
  case round =>
    obtain ⟨j, rfl, rfl, hj, hb⟩ := hrel
    have HB := Lib.hid hb
    have hsz := hb.size
    by_cases hlt : (j : Int) < L.size
    · have hjs : j < L.size := by omega
      have hlt' : j < (partI x.k).length := by have := HLS.out; omega
      have hp : (partI x.k)[j]? = some (partI x.k)[j] := List.getElem?_eq_getElem hlt'
      have hle := partI_le x.k _ (List.getElem_mem hlt')
      generalize (partI x.k)[j] = p at *
      have he := HLI.out j p hp hjs
      have hs := soFar_succ x j p hp
      have HO := Lib.hid (hO1.out.below hb)
      have HA := Lib.hid (hA1.out.below hb)
      have hlj1 := HLEN.out (j + 1)
      rw [hs, List.length_append, List.length_cons] at hlj1
      have HS1 := Lib.hid hs
      have hpc : p = 0 ∨ p = 1 ∨ p = 2 ∨ p = 3 ∨ p = 4 ∨ p = 5 := by omega
      clear hb hle hp hs
      have hfit := HFIT.out
      obtain ⟨_, hi, ho, hn, hd⟩ := hfit
      rcases hpc with rfl | rfl | rfl | rfl | rfl | rfl
      · have he2 : (L[j]'hjs).toNat = 105 := he
        have hc := HO.out.i
        have hlj2 : (soFar x j).length + (((Lib.itoa x.i).length) + 1) ≤ 10 + 3 * 2097161 := hlj1
        have hl1 : ¬ 9223372036854775807 < 1 + (Lib.itoa x.i).length := by (try simp only [List.length_cons] at hlj2); omega
        have hl2 : ¬ 9223372036854775807 < (soFar x j).length + (1 + (Lib.itoa x.i).length) := by (try simp only [List.length_cons] at hlj2); omega
        clear he hlj1 hlj2
        go_wp2_with (go_at_call 15; refine (HN.out x.i _ hi.1 hi.2).mono ?_; rintro e w2 ⟨rfl, b2⟩; have HB2 : Hid (Below w1.heap.size w1 w2) := HB.out.trans (b2.mono hsz); clear b2)
        go_roundw
        case measure => simp [intOf]; omega
        case rel =>
          refine ⟨j + 1, by go_num, ?_, by omega, HB2.out⟩
          rw [HS1.out]
          show Value.string (({ data := (soFar x j).toArray } : ByteArray) ++ (({ data := [32].toArray } : ByteArray) ++ { data := (Lib.itoa x.i).toArray })) = _
          rw [lits, lits]; rfl
      · have he2 : (L[j]'hjs).toNat = 111 := he
        have hc := HO.out.o
        have hlj2 : (soFar x j).length + (((Lib.itoa x.o).length) + 1) ≤ 10 + 3 * 2097161 := hlj1
        have hl1 : ¬ 9223372036854775807 < 1 + (Lib.itoa x.o).length := by (try simp only [List.length_cons] at hlj2); omega
        have hl2 : ¬ 9223372036854775807 < (soFar x j).length + (1 + (Lib.itoa x.o).length) := by (try simp only [List.length_cons] at hlj2); omega
        clear he hlj1 hlj2
        go_wp2_with (go_at_call 15; refine (HN.out x.o _ ho.1 ho.2).mono ?_; rintro e w2 ⟨rfl, b2⟩; have HB2 : Hid (Below w1.heap.size w1 w2) := HB.out.trans (b2.mono hsz); clear b2)
        go_roundw
        case measure => simp [intOf]; omega
        case rel =>
          refine ⟨j + 1, by go_num, ?_, by omega, HB2.out⟩
          rw [HS1.out]
          show Value.string (({ data := (soFar x j).toArray } : ByteArray) ++ (({ data := [32].toArray } : ByteArray) ++ { data := (Lib.itoa x.o).toArray })) = _
          rw [lits, lits]; rfl
      · have he2 : (L[j]'hjs).toNat = 110 := he
        have hc := HO.out.n
        have hlj2 : (soFar x j).length + (((Lib.itoa x.n).length) + 1) ≤ 10 + 3 * 2097161 := hlj1
        have hl1 : ¬ 9223372036854775807 < 1 + (Lib.itoa x.n).length := by (try simp only [List.length_cons] at hlj2); omega
        have hl2 : ¬ 9223372036854775807 < (soFar x j).length + (1 + (Lib.itoa x.n).length) := by (try simp only [List.length_cons] at hlj2); omega
        clear he hlj1 hlj2
        go_wp2_with (go_at_call 15; refine (HN.out x.n _ hn.1 hn.2).mono ?_; rintro e w2 ⟨rfl, b2⟩; have HB2 : Hid (Below w1.heap.size w1 w2) := HB.out.trans (b2.mono hsz); clear b2)
        go_roundw
        case measure => simp [intOf]; omega
        case rel =>
          refine ⟨j + 1, by go_num, ?_, by omega, HB2.out⟩
          rw [HS1.out]
          show Value.string (({ data := (soFar x j).toArray } : ByteArray) ++ (({ data := [32].toArray } : ByteArray) ++ { data := (Lib.itoa x.n).toArray })) = _
          rw [lits, lits]; rfl
      · have he2 : (L[j]'hjs).toNat = 116 := he
        have hc := HO.out.t
        have hlj2 : (soFar x j).length + (((61 :: x.t).length) + 1) ≤ 10 + 3 * 2097161 := hlj1
        have hl1 : ¬ 9223372036854775807 < 2 + (x.t).length := by (try simp only [List.length_cons] at hlj2); omega
        have hl2 : ¬ 9223372036854775807 < (soFar x j).length + (2 + (x.t).length) := by (try simp only [List.length_cons] at hlj2); omega
        clear he hlj1 hlj2
        go_wp2_with fail
        go_roundw
        case measure => simp [intOf]; omega
        case rel =>
          refine ⟨j + 1, by go_num, ?_, by omega, HB.out⟩
          rw [HS1.out]
          show Value.string (({ data := (soFar x j).toArray } : ByteArray) ++ (({ data := [32, 61].toArray } : ByteArray) ++ { data := (x.t).toArray })) = _
          rw [lits, lits]; rfl
      · have he2 : (L[j]'hjs).toNat = 100 := he
        have hc := HO.out.d
        have hlj2 : (soFar x j).length + (((digT x.d).length) + 1) ≤ 10 + 3 * 2097161 := hlj1
        have hl1 : ¬ 9223372036854775807 < 1 + (digT x.d).length := by (try simp only [List.length_cons] at hlj2); omega
        have hl2 : ¬ 9223372036854775807 < (soFar x j).length + (1 + (digT x.d).length) := by (try simp only [List.length_cons] at hlj2); omega
        clear he hlj1 hlj2
        go_wp2_with (first | ((with_reducible apply wpList_load_dig w.heap.size 5 x.d); rfl; exact hc; exact hd) | (go_at_call 16; refine (HD.out _).mono ?_; rintro e w2 ⟨rfl, b2⟩; have HB2 : Hid (Below w1.heap.size w1 w2) := HB.out.trans (b2.mono hsz); clear b2))
        go_roundw
        case measure => simp [intOf]; omega
        case rel =>
          refine ⟨j + 1, by go_num, ?_, by omega, HB2.out⟩
          rw [HS1.out]
          show Value.string (({ data := (soFar x j).toArray } : ByteArray) ++ (({ data := [32].toArray } : ByteArray) ++ { data := (digT x.d).toArray })) = _
          rw [lits, lits]; rfl
      · have he2 : (L[j]'hjs).toNat = 98 := he
        have hc := HO.out.dat
        have hlj2 : (soFar x j).length + (((120 :: hexL x.b).length) + 1) ≤ 10 + 3 * 2097161 := hlj1
        have hl1 : ¬ 9223372036854775807 < 2 + (hexL x.b).length := by (try simp only [List.length_cons] at hlj2); omega
        have hl2 : ¬ 9223372036854775807 < (soFar x j).length + (2 + (hexL x.b).length) := by (try simp only [List.length_cons] at hlj2); omega
        clear he hlj1 hlj2
        go_wp2_with (go_at_call 17; refine (HX.out _ HA.out).mono ?_; rintro e w2 ⟨rfl, b2⟩; have HB2 : Hid (Below w1.heap.size w1 w2) := HB.out.trans (b2.mono hsz); clear b2)
        go_roundw
        case measure => simp [intOf]; omega
        case rel =>
          refine ⟨j + 1, by go_num, ?_, by omega, HB2.out⟩
          rw [HS1.out]
          show Value.string (({ data := (soFar x j).toArray } : ByteArray) ++ (({ data := [32, 120].toArray } : ByteArray) ++ { data := (hexL x.b).toArray })) = _
          rw [lits, lits]; rfl
    · have hjl : j = L.size := by omega
      subst hjl
      have hall := HALL.out
      clear hb
      go_wp2_with fail
      go_ret
      exact ⟨by rw [← hall]; rfl, HB1.out.trans (HB.out.mono hs1)⟩
end Go.Proofs.YtjplfkcelkijfaaDoor
