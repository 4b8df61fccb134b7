/- What a paper's line writes, and what its String answers. Conditions: all written is at most 140737488355328 bytes. -/
import Derived.Deep.RegionHeld3
import Derived.Test.YtolaecdopfmbgaaDoorBh
namespace Go.Proofs.YtolaecdopfmbgaaDoor
open Go.RowKit

set_option maxHeartbeats 1000000 in
set_option maxRecDepth 100000 in
theorem stringP_calls (B b : Nat) (l : List UInt8) (w : World) (h : Lib.IsBuilder 111 5 B b (Lib.byteCells l) w) (h0 : l ≠ []) :
    Calls Tryd.prog 65 #[.pointer (some ⟨b, 0, none⟩)] w fun e w' => e = .returned (.string ⟨l.toArray⟩) ∧ Below B w w' := by
  obtain ⟨p, hB, v, hbk, hown, hne⟩ : ∃ p, Lib.BuilderAt 111 5 B b p (Lib.byteCells l) w := by
    rcases h with h | h
    · exact ⟨_, h⟩
    · exact ⟨_, h⟩
  have hl0 : l.length ≠ 0 := by simpa using h0
  rw [Lib.byteCells_length] at hown
  obtain ⟨g, cap, cur, rfl, hbg, hg, hnc, hcm, hcs, htake⟩ : ∃ g cap cur, v = .slice (some ⟨g, 0, none⟩) l.length cap ∧ B ≤ g ∧ w.heap[g]? = some (.cells cur 5 (0, 0)) ∧ l.length ≤ cap ∧ cap ≤ maxLen ∧ cur.size = cap * 1 ∧ cur.toList.take (l.length * 1) = Lib.byteCells l := by
    rcases hown.2 with ⟨_, hz⟩ | ⟨g, cap, cur, hv, r⟩
    · exact absurd hz hl0
    · exact ⟨g, cap, cur, hv, r⟩
  have c1 : w.drew.cell? ⟨b, 1, none⟩ = some (.slice (some ⟨g, 0, none⟩) l.length cap) := by
    have : w.drew.heap[b]? = some (.cells #[p, .slice (some ⟨g, 0, none⟩) l.length cap] 111 (0, 0)) := hbk
    rw [Lib.cell_of_heap this]; rfl
  have hSD : (Builtin.unsafeSliceData_ #[23] 155 #[.slice (some ⟨g, 0, none⟩) l.length cap]).run Tryd.prog w.drew = .ok (.pointer (some ⟨g, 0, none⟩)) w.drew :=
    Lib.run_unsafeSliceData_row _ _ _ _ _ _ (by omega)
  have hUS : (Builtin.unsafeString_ #[155, 3] 9 #[.pointer (some ⟨g, 0, none⟩), .int .i64 l.length]).run Tryd.prog w.drew = .ok (.string ⟨l.toArray⟩) (w.drew.freeze ⟨g, 0, none⟩ l.length) := by
    refine Lib.run_unsafeString_row w.drew 155 3 9 5 Tryd.lays169.t127 (by kernel_rfl) g cur.size (by have hg' : w.drew.heap[g]? = some (.cells cur 5 (0, 0)) := hg; simp [World.shape?, hg']) l h0 (by omega) (by unfold maxLen at hcm; omega) ?_
    intro j x hx
    have := hown.cells (g := g) rfl j (.int .u8 x.toNat) (by simp [Lib.byteCells, hx])
    exact this
  have mixed : Tryd.prog.follows .mixedOrders = true := by kernel_rfl
  go_enter Tryd.func65, Tryd.ntmps65
  go_wp2
  go_region_o
  all_goals (go_wp2; go_ret; exact ⟨rfl, Lib.below_freeze (Below.drew (Below.refl B w)) (p := ⟨g, 0, none⟩) hbg _⟩)

theorem builderP_below {B b W0 : Nat} {p : Value} {bs : List Value} {w w' : World} (h : Lib.BuilderAt 111 5 B b p bs w) (hb : Below W0 w w') (hW : w.heap.size ≤ W0) : Lib.BuilderAt 111 5 B b p bs w' := by
  have hlt := h.lt
  obtain ⟨hB, v, hbk, hown, hne⟩ := h
  refine ⟨hB, v, (hb.block _ (by omega)).trans hbk, ⟨hown.1, ?_⟩, hne⟩
  rcases hown.2 with hn | ⟨g, cap, cur, rfl, hbg, hgg, rest⟩
  · exact .inl hn
  · exact .inr ⟨g, cap, cur, rfl, hbg, (hb.block g (by have := (Array.getElem?_eq_some_iff.1 hgg).1; omega)).trans hgg, rest⟩
theorem isBuilderP_below {B b W0 : Nat} {bs : List Value} {w w' : World} (h : Lib.IsBuilder 111 5 B b bs w) (hb : Below W0 w w') (hW : w.heap.size ≤ W0) : Lib.IsBuilder 111 5 B b bs w' := by
  rcases h with h | h
  · exact .inl (builderP_below h hb hW)
  · exact .inr (builderP_below h hb hW)

def lineS (xs : List ByteArray) : List UInt8 := Lib.join (xs.map (·.data.toList)) [32]

set_option maxHeartbeats 2000000 in
set_option maxRecDepth 100000 in
theorem line_calls (B b : Nat) (bs : List Value) (bk o c : Nat) (xs : List ByteArray) (w : World) (h : Lib.IsBuilder 111 5 B b bs w) (hBw : B ≤ w.heap.size)
    (hcells : ∀ (j : Nat) x, xs[j]? = some x → w.cell? ⟨bk, o + j, none⟩ = some (.string x)) (hbk : bk < w.heap.size) (hcap : xs.length ≤ c) (hN : xs.length ≤ 1000) (hlen : bs.length + (lineS xs).length + 1 ≤ 140737488355328) :
    Calls Tryd.prog 64 #[.pointer (some ⟨b, 0, none⟩), .slice (some ⟨bk, o, none⟩) xs.length c] w fun e w' => e = .returned (.tuple #[]) ∧ Lib.BuilderAt 111 5 B b (.pointer (some ⟨b, 0, none⟩)) (bs ++ Lib.strCells ⟨(lineS xs).toArray⟩ ++ [.int .u8 10]) w' ∧ Below B w w' := by
  have hJ : Calls Tryd.prog 92 #[.slice (some ⟨bk, o, none⟩) xs.length c, .string ⟨#[32]⟩] w.drew fun e w' => e = .returned (.string ⟨(lineS xs).toArray⟩) ∧ Below w.heap.size w.drew w' :=
    Tryd.strings_Join bk o c xs ⟨#[32]⟩ w.drew hcells hbk (by omega) hcap (by show (lineS xs).length ≤ _; omega)
  have hW : ∀ w1, Below w.heap.size w.drew w1 → Calls Tryd.prog 91 #[.pointer (some ⟨b, 0, none⟩), .string ⟨(lineS xs).toArray⟩] w1 fun e w' => (∃ v, e = .returned v) ∧ (Lib.BuilderAt 111 5 B b (.pointer (some ⟨b, 0, none⟩)) (bs ++ Lib.strCells ⟨(lineS xs).toArray⟩) w' ∧ Below B w w') := by
    intro w1 hb1
    have hs1 : w.heap.size ≤ w1.heap.size := hb1.size
    refine (writeString_callsP B b bs _ w1 (isBuilderP_below h ((Below.refl _ w).drew.trans hb1) (Nat.le_refl _)) (by show bs.length + (lineS xs).toArray.size ≤ _; simp; omega) (by omega)).mono ?_
    rintro e w2 ⟨rfl, h2, hb2⟩
    exact ⟨⟨_, rfl⟩, h2, (((Below.refl _ w).drew.trans hb1).mono hBw).trans hb2⟩
  have HJ := Lib.hid hJ
  have HW := Lib.hid hW
  have HL := Lib.hid hlen
  have HBW := Lib.hid hBw
  clear hJ hW hlen hcells hbk hcap hN h hBw
  have mixed : Tryd.prog.follows .mixedOrders = true := by kernel_rfl
  go_enter Tryd.func64, Tryd.ntmps64
  go_wp2
  go_region_held3 (fun _ => True) (exact trivial) (first | (go_at_call 92; refine (HJ.out).mono ?_; rintro e w1 ⟨rfl, hb1⟩; have HB1 := Lib.hid hb1; clear hb1) | (go_at_call 91; refine (HW.out _ HB1.out).mono ?_; rintro e w2 ⟨⟨v, rfl⟩, hb2⟩; have HB2 := Lib.hid hb2; clear hb2))
  have hcl : (Lib.strCells ⟨(lineS xs).toArray⟩).length = (lineS xs).length := by simp [Lib.strCells]
  go_wp2_with (go_at_call 77; refine (writeByte_callsP B b _ 10 w2 (.inr HB2.out.1) (by have := HL.out; simp only [List.length_append, hcl]; omega) (Nat.le_trans HBW.out HB2.out.2.size)).mono ?_; rintro e w3 ⟨rfl, h3, hb3⟩; have HB3 := Lib.hid (And.intro h3 hb3); clear h3 hb3)
  go_end0
  exact ⟨rfl, HB3.out.1, HB2.out.2.trans HB3.out.2⟩
end Go.Proofs.YtolaecdopfmbgaaDoor
