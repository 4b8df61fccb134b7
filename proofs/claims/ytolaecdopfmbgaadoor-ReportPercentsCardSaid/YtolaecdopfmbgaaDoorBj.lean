/- report.Text of an empty snapshot, and what lives tries of the report. -/
import Derived.Test.YtolaecdopfmbgaaDoorBi
namespace Go.Proofs.YtolaecdopfmbgaaDoor
open Go.RowKit

structure Pap (w W : World) (bs : List UInt8) : Prop where
  bld : Lib.IsBuilder 111 5 (w.heap.size + 1) (w.heap.size + 1) (Lib.byteCells bs) W
  below : Below w.heap.size w W
  nil6 : W.cell? ⟨w.heap.size, 6, none⟩ = some (.slice none 0 0)
theorem Pap.lt {w W : World} {bs : List UInt8} (h : Pap w W bs) : w.heap.size + 1 < W.heap.size := by
  rcases h.bld with h | h
  · exact h.lt
  · exact h.lt
theorem Pap.to {w W W' : World} {bs : List UInt8} (h : Pap w W bs) (hb : Below W.heap.size W W') : Pap w W' bs :=
  ⟨isBuilderP_below h.bld hb (Nat.le_refl _), h.below.trans (hb.mono (by have := h.lt; omega)), (hb.cell (p := ⟨w.heap.size, 6, none⟩) (by have := h.lt; show w.heap.size < _; omega)).trans h.nil6⟩
theorem Pap.alloc {w W : World} {bs : List UInt8} (h : Pap w W bs) (o : Obj) : Pap w (W.alloc o) bs := h.to ((Below.refl _ _).alloc (Nat.le_refl _) _)
theorem strCells_bytes (l : List UInt8) : Lib.strCells ⟨l.toArray⟩ = Lib.byteCells l := by simp [Lib.strCells, Lib.byteCells]
theorem linePap_calls {w W : World} {bs : List UInt8} (h : Pap w W bs) (x y : ByteArray) (hlen : bs.length + (lineS [x, y]).length + 1 ≤ 140737488355328) :
    Calls Tryd.prog 64 #[.pointer (some ⟨w.heap.size + 1, 0, none⟩), .slice (some ⟨W.heap.size, 0, none⟩) 2 2] (W.alloc (.cells #[.string x, .string y] 9)) fun e w' => e = .returned (.tuple #[]) ∧ Pap w w' (bs ++ lineS [x, y] ++ [10]) := by
  have ha := h.alloc (.cells #[.string x, .string y] 9)
  refine (line_calls (w.heap.size + 1) (w.heap.size + 1) (Lib.byteCells bs) W.heap.size 0 2 [x, y] _ ha.bld (by have := ha.lt; omega) (fun j z hz => ?_) (by simp) (Nat.le_refl _) (by simp) (by simpa [Lib.byteCells] using hlen)).mono ?_
  · rw [Lib.cell_of_heap (heap_alloc_new W _)]
    rcases j with _ | _ | j
    · cases hz; rfl
    · cases hz; rfl
    · simp at hz
  · rintro e w' ⟨rfl, hB, hb⟩
    refine ⟨rfl, .inr ?_, ha.below.trans (hb.mono (by omega)), (hb.cell (p := ⟨w.heap.size, 6, none⟩) (by show w.heap.size < _; omega)).trans ha.nil6⟩
    rw [strCells_bytes] at hB
    simpa [Lib.byteCells] using hB
theorem pap_new (w : World) : Pap w ((w.alloc (.cells #[.int .i64 0, .int .i64 0, .int .i64 0, .int .u64 0, .slice none 0 0, .slice none 0 0, .slice none 0 0] 75)).alloc (.cells #[.pointer none, .slice none 0 0] 111)) [] := by
  refine ⟨?_, ((Below.refl _ _).alloc (Nat.le_refl _) _).alloc (by simp) _, ?_⟩
  · have := Lib.fresh_isBuilder 111 5 (w.alloc (.cells #[.int .i64 0, .int .i64 0, .int .i64 0, .int .u64 0, .slice none 0 0, .slice none 0 0, .slice none 0 0] 75))
    simp only [World.size_alloc] at this
    exact this
  · rw [Lib.cell_of_heap ((Lib.alloc_old _ _ _ (by simp)).trans (heap_alloc_new w _))]
    rfl
theorem itoa0 : (⟨(Lib.itoa 0).toArray⟩ : ByteArray) = ⟨#[48]⟩ := by
  unfold Lib.itoa
  rw [if_neg (by decide)]
  unfold Lib.decDigits
  simp
theorem itoa0_calls (W : World) (hp : Pow W) :
    Calls Tryd.prog 28 #[.int .i64 0] W fun e w' => e = .returned (.string ⟨#[48]⟩) ∧ Below W.heap.size W w' := by
  rw [← itoa0]
  exact itoa_calls 0 (by decide) (by decide) W hp

def text0L : List UInt8 := [100, 105, 103, 101, 115, 116, 115, 32, 48, 10, 98, 121, 116, 101, 115, 32, 48, 10, 110, 97, 109, 101, 115, 32, 48, 10]

set_option maxHeartbeats 4000000 in
set_option maxRecDepth 100000 in
theorem text0_calls (w : World) (hP : Pow w) :
    Calls Tryd.prog 36 #[.agg #[.int .i64 0, .int .i64 0, .int .i64 0, .int .u64 0, .slice none 0 0, .slice none 0 0, .slice none 0 0]] w fun e w' => e = .returned (.string ⟨#[100, 105, 103, 101, 115, 116, 115, 32, 48, 10, 98, 121, 116, 101, 115, 32, 48, 10, 110, 97, 109, 101, 115, 32, 48, 10]⟩) ∧ Below w.heap.size w w' := by
  have hp0 := pap_new w
  have HP := Lib.hid hP
  have h28 : ∀ W, Below w.heap.size w W → Calls Tryd.prog 28 #[.int .i64 0] W fun e w' => e = .returned (.string ⟨#[48]⟩) ∧ Below W.heap.size W w' := fun W hb => itoa0_calls W (HP.out.below hb)
  have H28 := Lib.hid h28
  clear hP h28
  go_enter Tryd.func36, Tryd.ntmps36
  go_wp2_with (first | (go_at_call 60; refine (count_nil _ _ _).mono ?_; rintro e w1 ⟨rfl, rfl⟩) | (go_at_call 63; refine (names_nil _).mono ?_; rintro e w1 ⟨rfl, rfl⟩) )
  generalize ((w.alloc (.cells #[.int .i64 0, .int .i64 0, .int .i64 0, .int .u64 0, .slice none 0 0, .slice none 0 0, .slice none 0 0] 75)).alloc (.cells #[.pointer none, .slice none 0 0] 111)) = w0 at *
  go_wp2_with (first | (go_at_call 28; refine (H28.out _ hp0.below).mono ?_; rintro e w1 ⟨rfl, hb1⟩; replace hp0 := hp0.to hb1; clear hb1) | (go_at_call 64; refine (linePap_calls hp0 _ _ (by decide)).mono ?_; rintro e w2 ⟨rfl, hp1⟩; clear hp0; have hp0 := hp1; clear hp1; have c6 := hp0.nil6))
  have hp9 : Pap w w2 text0L := hp0
  clear hp0
  go_loopw [36] (fun i wr => i = .int .i64 0 ∧ Pap w wr text0L) (fun _ _ => 0)
  case atStart => exact ⟨rfl, hp9⟩
  case round =>
    obtain ⟨rfl, hp⟩ := hrel
    go_wp2
    go_loopw [61] (fun i wr => i = .int .i64 0 ∧ Pap w wr text0L) (fun _ _ => 0)
    case atStart => exact ⟨rfl, hp⟩
    case round =>
      obtain ⟨rfl, hp⟩ := hrel
      go_wp2_with (go_at_call 65; refine (stringP_calls _ _ _ _ hp.bld (by decide)).mono ?_; rintro e w4 ⟨rfl, hb4⟩)
      go_ret
      exact ⟨rfl, hp.below.trans (hb4.mono (by omega))⟩
end Go.Proofs.YtolaecdopfmbgaaDoor
