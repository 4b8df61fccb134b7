/- line.part: a part's text. Condition: data and name of at most 1048576 bytes; the table of powers lies. -/
import Derived.Test.YtjplfkcelkijfaaGreatDoorWc
namespace Go.Proofs.YtjplfkcelkijfaaGreatDoor
open Go.RowKit

set_option maxHeartbeats 2000000 in
set_option maxRecDepth 100000 in
theorem part_calls (x : OpV) (A : Option Addr) (cap : Nat) (p : Nat) (w : World) (hx : x.fits) (hA : CellsIn w A (Lib.byteCells x.b)) (hl : x.b.length ≤ 1048576) (ht : x.t.length ≤ 1048576) (hP : Pow w) (hp5 : p ≤ 5) :
    Calls Tryz.prog 51 #[.agg (opV x (.slice A x.b.length cap)).toArray, .int .i64 p] w fun e w' => e = .returned (.string ⟨(partL x p).toArray⟩) ∧ Below w.heap.size w w' := by
  have hO := opAt_new w x (.slice A x.b.length cap) hx.2.2.2.2
  have hb0 : Below w.heap.size w (w.alloc (.cells (opV x (.slice A x.b.length cap)).toArray 26)) := (Below.refl _ _).alloc (Nat.le_refl _) _
  have hA0 := hA.below hb0
  have hP0 := hP.below hb0
  have HN := Lib.hid (fun n W h0 h1 hp => itoa_calls n h0 h1 W hp)
  have HD := Lib.hid (fun W => digText_calls x.d W hx.2.2.2.2)
  have HX := Lib.hid (fun W h => hexText_calls A cap x.b W hl h)
  have HO := Lib.hid hO
  have HB0 := Lib.hid hb0
  have HA := Lib.hid hA0
  have HP := Lib.hid hP0
  have hlen := partL_len x p hx ht hl
  obtain ⟨_, hi, ho, hn, hd⟩ := hx
  have hpc : p = 0 ∨ p = 1 ∨ p = 2 ∨ p = 3 ∨ p = 4 ∨ p = 5 := by omega
  clear hO hb0 hA0 hP0 hA hP hp5
  rcases hpc with rfl | rfl | rfl | rfl | rfl | rfl
  · have hc := HO.out.i
    clear hlen
    go_enter Tryz.func51, Tryz.ntmps51
    go_wp2_with (go_at_call 25; refine (HN.out x.i _ hi.1 hi.2 HP.out).mono ?_; rintro e w2 ⟨rfl, b2⟩)
    go_ret
    exact ⟨rfl, HB0.out.trans (b2.mono (by simp))⟩
  · have hc := HO.out.o
    clear hlen
    go_enter Tryz.func51, Tryz.ntmps51
    go_wp2_with (go_at_call 25; refine (HN.out x.o _ ho.1 ho.2 HP.out).mono ?_; rintro e w2 ⟨rfl, b2⟩)
    go_ret
    exact ⟨rfl, HB0.out.trans (b2.mono (by simp))⟩
  · have hc := HO.out.n
    clear hlen
    go_enter Tryz.func51, Tryz.ntmps51
    go_wp2_with (go_at_call 25; refine (HN.out x.n _ hn.1 hn.2 HP.out).mono ?_; rintro e w2 ⟨rfl, b2⟩)
    go_ret
    exact ⟨rfl, HB0.out.trans (b2.mono (by simp))⟩
  · have hc := HO.out.t
    have hlj : (61 :: x.t).length ≤ 2097160 := hlen
    have hl1 : ¬ 9223372036854775807 < 1 + x.t.length := by simp only [List.length_cons] at hlj; omega
    clear hlen hlj
    go_enter Tryz.func51, Tryz.ntmps51
    go_wp2_with fail
    go_ret
    refine ⟨?_, HB0.out⟩
    show Ending.returned (.string (({ data := [61].toArray } : ByteArray) ++ { data := x.t.toArray })) = _
    rw [lits]; rfl
  · have hc := HO.out.d
    clear hlen
    go_enter Tryz.func51, Tryz.ntmps51
    go_wp2_with (first | ((with_reducible apply wpList_load_dig w.heap.size 5 x.d); rfl; exact hc; exact hd) | (go_at_call 28; refine (HD.out _).mono ?_; rintro e w2 ⟨rfl, b2⟩))
    go_ret
    exact ⟨rfl, HB0.out.trans (b2.mono (by simp))⟩
  · have hc := HO.out.dat
    have hlj : (120 :: hexL x.b).length ≤ 2097160 := hlen
    have hl1 : ¬ 9223372036854775807 < 1 + (hexL x.b).length := by simp only [List.length_cons] at hlj; omega
    clear hlen hlj
    go_enter Tryz.func51, Tryz.ntmps51
    go_wp2_with (go_at_call 29; refine (HX.out _ HA.out).mono ?_; rintro e w2 ⟨rfl, b2⟩)
    go_ret
    refine ⟨?_, HB0.out.trans (b2.mono (by simp))⟩
    show Ending.returned (.string (({ data := [120].toArray } : ByteArray) ++ { data := (hexL x.b).toArray })) = _
    rw [lits]; rfl
end Go.Proofs.YtjplfkcelkijfaaGreatDoor
