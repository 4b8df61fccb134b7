/- line.Text: an operation's line. Condition: name and data of at most 1048576 bytes; the table of powers lies. -/
import Derived.Deep.CutRange
import Derived.Deep.RegionLaw
import Derived.Test.YtjplfkcelkijfaaGreatDoorWf
namespace Go.Proofs.YtjplfkcelkijfaaGreatDoor
open Go.RowKit

theorem size26 : (Tryz.prog.info? 26).map (·.size) = some 38 := by kernel_rfl
theorem opV_length (x : OpV) (v : Value) (hd : x.d.length = 32) : (opV x v).length = 38 := by
  unfold opV
  simp only [List.length_cons, List.length_append, digV_length, hd, List.length_nil]
theorem two_set {w : World} {g : Nat} {a b : Value} {t : TypeId} (h : w.heap[g]? = some (.cells #[a, b] t (0, 0))) (u v : Value) :
    ((w.setCell ⟨g, 0, none⟩ u).setCell ⟨g, 1, none⟩ v).heap[g]? = some (.cells #[u, v] t (0, 0)) := by
  have h1 := heap_setCell_same w g 0 #[a, b] t u h
  have h2 := heap_setCell_same (w.setCell ⟨g, 0, none⟩ u) g 1 _ t v h1
  rw [h2]; rfl
theorem ints_two {w : World} {g : Nat} {t : TypeId} {v : Value} {zs : List Int} (h : IntsIn w v zs) (hg : w.heap[g]? = some (.cells #[.string ⟨#[]⟩, .slice none 0 0] t (0, 0))) (u u' : Value) : IntsIn ((w.setCell ⟨g, 0, none⟩ u).setCell ⟨g, 1, none⟩ u') v zs := by
  obtain ⟨A, cap, e, hc⟩ := h
  refine ⟨A, cap, e, fun k x hk => ?_⟩
  obtain ⟨b, o, ha, hcell⟩ := hc k x hk
  refine ⟨b, o, ha, ?_⟩
  have hne : b ≠ g := fun eg => by
    subst eg
    rw [Lib.cell_of_heap hg] at hcell
    obtain ⟨z, hz⟩ : ∃ z : Int, x = .int .i64 z := by
      rw [List.getElem?_map] at hk
      obtain ⟨z, _, hz⟩ := Option.map_eq_some_iff.1 hk
      exact ⟨z, hz.symm⟩
    subst hz
    have : (Value.int .i64 z) ∈ (#[Value.string ⟨#[]⟩, Value.slice none 0 0] : Array Value).toList := by rw [← Array.getElem?_toList] at hcell; exact List.mem_of_getElem? hcell
    simp at this
  have far : ∀ (W : World) (j : Nat) (y : Value), (W.setCell ⟨g, j, none⟩ y).cell? ⟨b, o + k, none⟩ = W.cell? ⟨b, o + k, none⟩ := fun W j y => World.cell?_of_block (Below.heap_setCell W ⟨g, j, none⟩ y b hne)
  rw [far, far]; exact hcell

set_option maxHeartbeats 2000000 in
set_option maxRecDepth 100000 in
theorem text_calls (x : OpV) (A : Option Addr) (cap : Nat) (w : World) (hx : x.fits) (hA : CellsIn w A (Lib.byteCells x.b)) (hl : x.b.length ≤ 1048576) (ht : x.t.length ≤ 1048576) (hP : Pow w) :
    Calls Tryz.prog 24 #[.agg (opV x (.slice A x.b.length cap)).toArray] w fun e w' => e = .returned (.string ⟨(textL x).toArray⟩) ∧ Below w.heap.size w w' := by
  have hO := opAt_new w x (.slice A x.b.length cap) hx.2.2.2.2
  have hb0 : Below w.heap.size w (w.alloc (.cells (opV x (.slice A x.b.length cap)).toArray 26)) := (Below.refl _ _).alloc (Nat.le_refl _) _
  have hA0 := hA.below hb0
  have hP0 := hP.below hb0
  have hrg := rangeAt_new w (opV x (.slice A x.b.length cap)) 26
  have HPC := Lib.hid (fun p W hA hP hp => part_calls x A cap p W hx hA hl ht hP hp)
  have hlen := fun j => soFar_len x j hx ht hl
  have HLEN := Lib.hid hlen
  have hk0 := hO.k
  have HSH := Lib.hid shapes_calls
  have HFIT := Lib.hid hx
  clear hx hlen ht hA hP
  by_cases hk : 1 ≤ x.k ∧ x.k ≤ 20
  · obtain ⟨m, hm⟩ := Int.eq_ofNat_of_zero_le (show 0 ≤ x.k by omega)
    have hwi : wordI x.k = wordT m := by unfold wordI; rw [if_pos hk, hm]; rfl
    have hpi : partI x.k = partT m := by unfold partI; rw [if_pos hk, hm]; rfl
    have HWI := Lib.hid hwi
    have HPI := Lib.hid hpi
    have hk1 : (1 : Int) ≤ m := by omega
    have hk2 : (m : Int) ≤ 20 := by omega
    rw [hm] at hk0
    have HM := Lib.hid hm
    have hkf := hm
    clear hk hwi hpi hkf
    go_enter Tryz.func24, Tryz.ntmps24
    go_wp2_with fail
    generalize w.alloc (.cells (opV x (.slice A x.b.length cap)).toArray 26) = w0 at *
    have HB0 := Lib.hid hb0
    have hm20 : m ≤ 20 := by omega
    have hlt0 : w.heap.size < w0.heap.size := hO.lt
    have n0 : w.heap.size ≠ w0.heap.size := Nat.ne_of_lt hlt0
    have c0 : ∀ o : Obj, (w0.drew.alloc o).cell? ⟨w.heap.size, 0, none⟩ = some (.int .i64 m) := fun o => (World.cell?_alloc_old w0.drew o ⟨w.heap.size, 0, none⟩ n0).trans hk0
    go_cut [3] from 15 to 18 (fun p wx => ∃ g v, p = .pointer (some ⟨g, 0, none⟩) ∧ wx.cell? ⟨g, 0, none⟩ = some (.string ⟨(wordI x.k).toArray⟩) ∧ wx.cell? ⟨g, 1, none⟩ = some v ∧ IntsIn wx v ((partI x.k).map fun (p : Nat) => (p : Int)) ∧ Below w0.heap.size w0 wx ∧ w0.heap.size ≤ g)
    case first =>
      go_region_law (first | (go_simp; go_at_call 19; refine (HSH.out _).mono ?_; rintro e w1 ⟨vs, rfl, hvs, hin, b1⟩; have hW : Hid (Below w0.heap.size w0 w1) := (Below.refl _ w0).drew.trans (b1.mono (Nat.le_refl _)); have c1 : w1.cell? ⟨w.heap.size, 0, none⟩ = some (.int .i64 m) := (hW.out.cell (p := ⟨w.heap.size, 0, none⟩) hlt0).trans hk0; have n1 : w.heap.size ≠ w1.heap.size := (by have := hW.out.size; omega); have c2 : ∀ o : Obj, (w1.alloc o).cell? ⟨w.heap.size, 0, none⟩ = some (.int .i64 m) := (fun o => (World.cell?_alloc_old w1 o ⟨w.heap.size, 0, none⟩ n1).trans c1); obtain ⟨v, hv⟩ : ∃ v, vs[m]? = some v := ⟨_, List.getElem?_eq_getElem (by omega)⟩; obtain ⟨Av, cv, rfl, hcv⟩ := hin m v hv; rw [List.length_map] at hv; have hix := index_shapes m hm20 vs _ hv; have HIN : Hid (IntsIn w1 (.slice Av (partT m).length cv) ((partT m).map fun (p : Nat) => (p : Int))) := ⟨Av, cv, by rw [List.length_map], hcv⟩; clear hin hcv b1) | (go_simp; go_at_call 19; refine (HSH.out _).mono ?_; rintro e w1 ⟨vs, rfl, hvs, hin, b1⟩; have hW : Hid (Below w0.heap.size w0 w1) := ((Below.refl _ w0).drew.alloc (Nat.le_refl _) _).trans (b1.mono (by simp)); have c1 : w1.cell? ⟨w.heap.size, 0, none⟩ = some (.int .i64 m) := (hW.out.cell (p := ⟨w.heap.size, 0, none⟩) hlt0).trans hk0; have n1 : w.heap.size ≠ w1.heap.size := (by have := hW.out.size; omega); have c2 : ∀ o : Obj, (w1.alloc o).cell? ⟨w.heap.size, 0, none⟩ = some (.int .i64 m) := (fun o => (World.cell?_alloc_old w1 o ⟨w.heap.size, 0, none⟩ n1).trans c1); obtain ⟨v, hv⟩ : ∃ v, vs[m]? = some v := ⟨_, List.getElem?_eq_getElem (by omega)⟩; obtain ⟨Av, cv, rfl, hcv⟩ := hin m v hv; rw [List.length_map] at hv; have hix := index_shapes m hm20 vs _ hv; have HIN : Hid (IntsIn w1 (.slice Av (partT m).length cv) ((partT m).map fun (p : Nat) => (p : Int))) := ⟨Av, cv, by rw [List.length_map], hcv⟩; have hz : w1.heap[w0.heap.size]? = some (.cells #[.string ⟨#[]⟩, .slice none 0 0] 49 (0, 0)) := (b1.block w0.heap.size (by simp)).trans (World.alloc_heap_new w0.drew _); have z0 := cell_of_row _ _ 0 _ _ _ hz; have z1 := cell_of_row _ _ 1 _ _ _ hz; have z2 := frozen_of_row _ _ 0 _ _ hz; have z3 := frozen_of_row _ _ 1 _ _ hz; have HZ := Lib.hid hz; clear hz z0 z1; have z0 : w1.cell? ⟨w0.heap.size, 0, none⟩ = some (.string ⟨#[]⟩) := cell_of_row _ _ 0 _ _ _ HZ.out; have z1 : w1.cell? ⟨w0.heap.size, 1, none⟩ = some (.slice none 0 0) := cell_of_row _ _ 1 _ _ _ HZ.out; clear hin hcv b1))
      all_goals
        go_wp2_with fail
        go_meet
        case rel =>
          rw [HWI.out, HPI.out]
          first
          | (have hz2 : ((w1.setCell ⟨w0.heap.size, 0, none⟩ (.string ⟨(wordT m).toArray⟩)).setCell ⟨w0.heap.size, 1, none⟩ (.slice Av (partT m).length cv)).heap[w0.heap.size]? = some (.cells #[.string ⟨(wordT m).toArray⟩, .slice Av (partT m).length cv] 49 (0, 0)) := two_set HZ.out _ _
             have hg : w0.heap.size < w1.heap.size := lt_of_block HZ.out
             exact ⟨w0.heap.size, _, rfl, cell_of_row _ _ 0 _ _ _ hz2, cell_of_row _ _ 1 _ _ _ hz2, ints_two HIN.out HZ.out _ _, (hW.out.setCell (Nat.le_refl _) _).setCell (Nat.le_refl _) _, Nat.le_refl _⟩)
          | (have hz2 : (w1.alloc (.cells #[.string ⟨(wordT m).toArray⟩, .slice Av (partT m).length cv] 49)).heap[w1.heap.size]? = some (.cells #[.string ⟨(wordT m).toArray⟩, .slice Av (partT m).length cv] 49 (0, 0)) := World.alloc_heap_new _ _
             exact ⟨w1.heap.size, _, rfl, cell_of_row _ _ 0 _ _ _ hz2, cell_of_row _ _ 1 _ _ _ hz2, HIN.out.below ((Below.refl _ _).alloc (Nat.le_refl _) _), hW.out.alloc hW.out.size _, hW.out.size⟩)
    case rest =>
      obtain ⟨gs, v, rfl, cs0, cs1, hint, hbc, hgs⟩ := hcut
      have hOc := Lib.hid (hO.below hbc)
      have hAc := Lib.hid (hA0.below hbc)
      have hPc := Lib.hid (hP0.below hbc)
      have hRc := Lib.hid (rangeAt_below hrg hbc)
      have HBC := Lib.hid (HB0.out.trans (hbc.mono HB0.out.size))
      have hz0 := soFar_zero x
      rw [← hz0] at cs0
      obtain ⟨Av, cv, rfl, hcv⟩ := hint
      rw [List.length_map] at cs1
      have HCV := Lib.hid hcv
      clear hcv hO hA0 hP0 hk0 hz0 hbc hrg hm
      have hls3 : ((partI x.k).length : Int) ≤ 3 := by have := partI_length x.k; omega
      have hsc := HBC.out.size
      go_wp2_with fail
      go_loopw [4, 24] (fun s c wr => ∃ j : Nat, c = .int .i64 j ∧ s = .string ⟨(soFar x j).toArray⟩ ∧ (j : Int) ≤ (partI x.k).length ∧ Below wc.heap.size wc wr) (fun _ c _ => (partI x.k).length - (intOf c).toNat)
      case atStart => exact ⟨0, rfl, rfl, by omega, Below.refl _ _⟩
      case round =>
        obtain ⟨j, rfl, rfl, hj, hb⟩ := hrel
        have HB := Lib.hid hb
        have hsz := hb.size
        by_cases hlt : (j : Int) < (partI x.k).length
        · have hlt' : j < (partI x.k).length := by omega
          have hp : (partI x.k)[j]? = some (partI x.k)[j] := List.getElem?_eq_getElem hlt'
          have hle := partI_le x.k _ (List.getElem_mem hlt')
          generalize (partI x.k)[j] = p at *
          have hcell := (HCV.out.below hb) j (.int .i64 p) (by rw [List.getElem?_map, List.getElem?_map, hp]; rfl)
          obtain ⟨g1, o1, rfl, hc1⟩ := hcell
          have hs := soFar_succ x j p hp
          have HS1 := Lib.hid hs
          have HR := Lib.hid (rangeAt_below hRc.out hb)
          have HA := Lib.hid (hAc.out.below hb)
          have HP := Lib.hid (hPc.out.below hb)
          have C1 := Lib.hid (show (Tryz.prog.info? 26).map (·.size) = some (opV x (.slice A x.b.length cap)).length by rw [size26, opV_length _ _ HFIT.out.2.2.2.2])
          have hlj1 := HLEN.out (j + 1)
          rw [hs, List.length_append, List.length_cons] at hlj1
          have hl1 : ¬ 9223372036854775807 < 1 + (partL x p).length := by omega
          have hl2 : ¬ 9223372036854775807 < (soFar x j).length + (1 + (partL x p).length) := by omega
          have HPC1 := Lib.hid (HPC.out p wr HA.out HP.out hle)
          clear hb hp hs hlj1 hle
          go_wp2_with (first | (refine wpList_load_mid rfl 26 _ rfl w.heap.size 0 rfl (opV x (.slice A x.b.length cap)) _ HR.out Tryz.underlying26 rfl C1.out ?_) | (go_at_call 51; refine HPC1.out.mono ?_; rintro e w2 ⟨rfl, b2⟩; have HB2 : Hid (Below wc.heap.size wc w2) := HB.out.trans (b2.mono hsz); clear b2))
          go_roundw
          case measure => simp [intOf]; omega
          case rel =>
            refine ⟨j + 1, by go_num, ?_, by omega, HB2.out⟩
            rw [HS1.out]
            show Value.string (({ data := (soFar x j).toArray } : ByteArray) ++ (({ data := [32].toArray } : ByteArray) ++ { data := (partL x p).toArray })) = _
            rw [lits, lits]; rfl
        · have hjl : j = (partI x.k).length := by omega
          subst hjl
          have hall := soFar_all x
          clear hb
          go_wp2_with fail
          go_ret
          exact ⟨by rw [← hall]; rfl, HBC.out.trans (HB.out.mono hsc)⟩
  · have ht : textL x = [] := by unfold textL; rw [if_neg hk]
    have HT := Lib.hid ht
    clear ht
    by_cases hk1 : x.k < 1
    · clear hk
      go_enter Tryz.func24, Tryz.ntmps24
      go_wp2_with fail
      go_ret
      exact ⟨by rw [HT.out]; rfl, hb0⟩
    · have hk2 : 20 < x.k := by omega
      clear hk
      go_enter Tryz.func24, Tryz.ntmps24
      go_wp2_with fail
      go_ret
      exact ⟨by rw [HT.out]; rfl, hb0⟩
end Go.Proofs.YtjplfkcelkijfaaGreatDoor
