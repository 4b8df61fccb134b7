/- The program's texts of bytes and of digests. Condition: at most 1048576 bytes. -/
import Derived.Test.YtjplfkcelkijfaaGreatDoorHxD
namespace Go.Proofs.YtjplfkcelkijfaaGreatDoor
open Go.RowKit
theorem isBuilder_of {B b : Nat} {bs : List Value} {w : World} (h : Lib.BuilderAt 62 5 B b (.pointer (some ⟨b, 0, none⟩)) bs w) : Lib.IsBuilder 62 5 B b bs w := .inr h
theorem figs_at : ∀ n : Fin 16, ({ data := #[48, 49, 50, 51, 52, 53, 54, 55, 56, 57, 97, 98, 99, 100, 101, 102] } : ByteArray)[n.val]'(Nat.lt_of_lt_of_le n.isLt (by decide)) = hexD n.val := by decide
set_option maxHeartbeats 400000 in
set_option maxRecDepth 100000 in
theorem hexText_calls (A : Option Addr) (cap : Nat) (d : List UInt8) (w : World) (hl : d.length ≤ 1048576) (hA : CellsIn w A (Lib.byteCells d)) :
    Calls Tryz.prog 29 #[.slice A d.length cap] w fun e w' => e = .returned (.string ⟨(hexL d).toArray⟩) ∧ Below w.heap.size w w' := by
  have hl' : (d.length : Int) ≤ 1048576 := by omega
  clear hl
  go_enter Tryz.func29, Tryz.ntmps29
  go_wp2
  go_loopw [5, 8] (fun _ c wr => ∃ k : Nat, (k : Int) ≤ d.length ∧ c = .int .i64 k ∧ Lib.IsBuilder 62 5 w.heap.size w.heap.size (Lib.byteCells (hexL (d.take k))) wr ∧ Below w.heap.size w wr) (fun _ c _ => d.length - (intOf c).toNat)
  case atStart => exact ⟨0, by omega, rfl, Lib.fresh_isBuilder _ _ _, (Below.refl _ _).alloc (Nat.le_refl _) _⟩
  case round =>
    obtain ⟨k, hk, rfl, hB, hb⟩ := hrel
    have hAr := hA.below hb
    have hsz := hb.size
    by_cases hlt : (k : Int) < d.length
    · obtain ⟨c, hc⟩ : ∃ c, d[k]? = some c := ⟨_, List.getElem?_eq_getElem (by omega)⟩
      obtain ⟨b, o, rfl, hcell⟩ := hAr k (.int .u8 c.toNat) (by rw [Lib.byteCells, List.getElem?_map, hc]; rfl)
      have hc1 : (c.toNat : Int) < 256 := by have := c.toNat_lt; omega
      have HT := Lib.hid (hexL_take hc)
      have LEN1 := Lib.hid (show (Lib.byteCells (hexL (d.take k))).length + 1 ≤ 140737488355328 by rw [Lib.byteCells_length, hexL_length, List.length_take]; omega)
      have LEN2 := Lib.hid (show (Lib.byteCells (hexL (d.take k))).length + 1 + 1 ≤ 140737488355328 by rw [Lib.byteCells_length, hexL_length, List.length_take]; omega)
      clear hc hA hAr
      have hq : 0 ≤ (c.toNat : Int) / 16 ∧ (c.toNat : Int) / 16 < 16 := by omega
      go_wp2_with (first | (go_at_call 54; refine (writeByte_calls _ _ _ _ _ (isBuilder_of hB1) (by rw [List.length_append]; exact LEN2.out) (by have := hb1.size; omega)).mono ?_; rintro e w2 ⟨rfl, hB2, hb2⟩) | (go_at_call 54; refine (writeByte_calls _ _ _ _ _ hB LEN1.out hsz).mono ?_; rintro e w1 ⟨rfl, hB1, hb1⟩))
      go_roundw
      case rel =>
        refine ⟨k + 1, by omega, by go_num, ?_, (hb.trans hb1).trans hb2⟩
        have e1 := figs_at ⟨c.toNat / 16, by omega⟩
        have e2 := figs_at ⟨c.toNat % 16, by omega⟩
        simp only at e1 e2
        rw [HT.out, Lib.byteCells, List.map_append]
        refine isBuilder_of ?_
        rw [List.append_assoc] at hB2
        simp only [e1, e2] at hB2
        exact hB2
      case measure => simp [intOf]; omega
    · obtain rfl : k = d.length := by omega
      rw [List.take_length] at hB
      have HS := Lib.hid (Tryz.Builder_String_any w.heap.size w.heap.size (hexL d) wr hB hsz)
      clear hA hAr hB
      go_wp2_with (go_at_call 31; refine HS.out.mono ?_; rintro e w1 ⟨rfl, hb1⟩)
      go_ret
      exact ⟨rfl, hb.trans hb1⟩
set_option maxHeartbeats 1000000 in
set_option maxRecDepth 100000 in
theorem digText_calls (d : List UInt8) (w : World) (hd : d.length = 32) :
    Calls Tryz.prog 28 #[.agg (digV d).toArray] w fun e w' => e = .returned (.string ⟨(digT d).toArray⟩) ∧ Below w.heap.size w w' := by
  have hr := cellsIn_of_range (rangeAt_new w (digV d) 23)
  have h79 := hexText_calls _ 32 d _ (by omega) hr
  rw [hd] at h79
  have H := Lib.hid h79
  clear hr h79
  have hlen : ¬ 9223372036854775807 < 7 + (hexL d).length := by rw [hexL_length]; omega
  clear hd
  go_enter Tryz.func28, Tryz.ntmps28
  go_wp2_with (go_at_call 29; refine H.out.mono ?_; rintro e w1 ⟨rfl, hb⟩)
  go_ret
  refine ⟨?_, (((Below.refl _ _).alloc (Nat.le_refl _) _).trans (hb.mono (by simp)))⟩
  rw [show ({ data := #[115, 104, 97, 50, 53, 54, 58] } : ByteArray) = ⟨kindL.toArray⟩ from rfl, lits]
  rfl
end Go.Proofs.YtjplfkcelkijfaaGreatDoor
