/- manifest.Read: for every text of at most 140737488351232 bytes. -/
import Derived.Test.YtolaecdopfmbgaaDoorAe
namespace Go.Proofs.YtolaecdopfmbgaaDoor
open Go.RowKit Go.Shelf
attribute [local go_sem] Oper.semAt_some lineV

theorem cut_all (l : List UInt8) : (∀ x ∈ linesL l, x.1.length ≤ l.length) := by
  induction l using linesL.induct with
  | case1 l ih =>
    intro x hx
    rw [linesL_step] at hx
    rcases List.mem_cons.1 hx with rfl | hx
    · exact (cut_le l [10]).1
    · unfold linesR at hx
      split at hx
      · cases hx
      · rename_i h
        exact Nat.le_trans (ih h x hx) (cut_le l [10]).2
/-- what there is behind some lines -/
def RS (b : List UInt8) (w : World) (N : Nat) (pre : List (List UInt8 × Bool)) (v : Value) (n : Nat) (L : List Rf) (W : World) : Prop :=
  W.heap[N]? = some (.cells #[.slice none 0 0] 22) ∧ W.heap[N + 1]? = some (.cells #[.int .i64 0] 24) ∧ W.heap[N + 1 + 1]? = some (.cells #[v] 22) ∧ W.heap[N + 1 + 1 + 1]? = some (.cells #[.int .i64 n] 3) ∧
  W.ownsRow (N + 7) 41 34 v L.length (refCells L) ∧ allFit L ∧ L.length ≤ 64 ∧ Below N w W ∧ ((n = 0 ∧ pre = [] ∧ L = []) ∨ (n = L.length + 1 ∧ ∃ rest, linesL b = pre ++ rest ∧ readL b = readG L rest))
theorem RS.moves {b : List UInt8} {w : World} {N : Nat} {pre : List (List UInt8 × Bool)} {v : Value} {n : Nat} {L : List Rf} {A B : World} (h : RS b w N pre v n L A) (hm : Moves (withLoop (fun x => x = N + 1 + 1 + 1 + 1) (N + 5)) A B) : RS b w N pre v n L B := by
  obtain ⟨h1, h2, h3, h4, h5, h6, h7, h8, h9⟩ := h
  refine ⟨(hm.block _ (lt_block h1) (by simp only [withLoop]; omega)).trans h1, (hm.block _ (lt_block h2) (by simp only [withLoop]; omega)).trans h2, (hm.block _ (lt_block h3) (by simp only [withLoop]; omega)).trans h3,
    (hm.block _ (lt_block h4) (by simp only [withLoop]; omega)).trans h4, ownsRow_same h5 (fun j hj => hm.block j (h5.lt j hj).2 (by have := (h5.lt j hj).1; simp only [withLoop]; omega)), h6, h7, ?_, h9⟩
  exact h8.trans (hm.below (by have := lt_block h4; omega) fun k hk => by simp only [withLoop] at hk; omega)
theorem RS.below {b : List UInt8} {w : World} {N : Nat} {pre : List (List UInt8 × Bool)} {v : Value} {n : Nat} {L : List Rf} {A B : World} (h : RS b w N pre v n L A) (hm : Below A.heap.size A B) : RS b w N pre v n L B := h.moves (Moves.of_below hm)
/-- how the rounds end early -/
def RX (b : List UInt8) (w : World) (N : Nat) (W : World) : Prop :=
  ∃ x : Nat, readL b = ([], x) ∧ W.heap[N]? = some (.cells #[.slice none 0 0] 22) ∧ W.heap[N + 1]? = some (.cells #[.int .i64 x] 24) ∧ Below N w W
theorem RX.moves {b : List UInt8} {w : World} {N : Nat} {A B : World} (h : RX b w N A) (hm : Moves (withLoop (fun x => x = N + 1 + 1 + 1 + 1) (N + 5)) A B) : RX b w N B := by
  obtain ⟨x, h0, h1, h2, h3⟩ := h
  exact ⟨x, h0, (hm.block _ (lt_block h1) (by simp only [withLoop]; omega)).trans h1, (hm.block _ (lt_block h2) (by simp only [withLoop]; omega)).trans h2, h3.trans (hm.below (by have := lt_block h2; omega) fun k hk => by simp only [withLoop] at hk; omega)⟩
theorem below_size {w W : World} {N : Nat} (h : Below N w W) (hN : N ≤ w.heap.size) : N ≤ W.heap.size := Nat.le_trans hN h.size

theorem RS.bad {b : List UInt8} {w : World} {N : Nat} {pre : List (List UInt8 × Bool)} {v : Value} {n D : Nat} {L : List Rf} {W X : World} {code : Nat} (h : RS b w N pre v n L X) (hz : D = N + 5)
    (hk : Keeps (withLoop (fun x => x = N + 1 + 1 + 1 + 1) D) W X) (hc : readL b = ([], code)) :
    Keeps (withLoop (fun x => x = N + 1 + 1 + 1 + 1) D) W ((X.setCell ⟨N, 0, none⟩ (.slice none 0 0)).setCell ⟨N + 1, 0, none⟩ (.int .i64 code)) ∧ Code.ret = Code.ret ∧ RX b w N ((X.setCell ⟨N, 0, none⟩ (.slice none 0 0)).setCell ⟨N + 1, 0, none⟩ (.int .i64 code)) := by
  obtain ⟨h1, h2, h3, h4, h5, h6, h7, h8, h9⟩ := h
  refine ⟨(hk.trans (Keeps.setCell _ _ _ (by simp only [withLoop]; omega))).trans (Keeps.setCell _ _ _ (by simp only [withLoop]; omega)), rfl, code, hc, ?_, one_setCell (v := .int .i64 0) ?_, (h8.setCell (Nat.le_refl _) _).setCell (by show N ≤ N + 1; omega) _⟩
  · rw [Below.heap_setCell _ _ _ _ (by show N ≠ N + 1; omega)]; exact one_setCell h1
  · rw [Below.heap_setCell _ _ _ _ (by show N + 1 ≠ N; omega)]; exact h2
theorem RS.cells {b : List UInt8} {w : World} {N : Nat} {pre : List (List UInt8 × Bool)} {v : Value} {n : Nat} {L : List Rf} {X : World} (h : RS b w N pre v n L X) :
    (X.cell? ⟨N, 0, none⟩ = some (.slice none 0 0) ∧ X.frozen? ⟨N, 0, none⟩ = false) ∧ (X.cell? ⟨N + 1, 0, none⟩ = some (.int .i64 0) ∧ X.frozen? ⟨N + 1, 0, none⟩ = false) ∧
    (X.cell? ⟨N + 1 + 1, 0, none⟩ = some v ∧ X.frozen? ⟨N + 1 + 1, 0, none⟩ = false) ∧ (X.cell? ⟨N + 1 + 1 + 1, 0, none⟩ = some (.int .i64 n) ∧ X.frozen? ⟨N + 1 + 1 + 1, 0, none⟩ = false) :=
  ⟨⟨cell_of_one' h.1, Lib.frozen_of_heap h.1 0⟩, ⟨cell_of_one' h.2.1, Lib.frozen_of_heap h.2.1 0⟩, ⟨cell_of_one' h.2.2.1, Lib.frozen_of_heap h.2.2.1 0⟩, ⟨cell_of_one' h.2.2.2.1, Lib.frozen_of_heap h.2.2.2.1 0⟩⟩
/-- the next line is counted -/
theorem RS.step {b : List UInt8} {w : World} {N : Nat} {pre' : List (List UInt8 × Bool)} {v : Value} {n D m : Nat} {L : List Rf} {W X : World} (h1 : X.heap[N]? = some (.cells #[.slice none 0 0] 22)) (h2 : X.heap[N + 1]? = some (.cells #[.int .i64 0] 24)) (h3 : X.heap[N + 1 + 1]? = some (.cells #[v] 22))
    (h4 : X.heap[N + 1 + 1 + 1]? = some (.cells #[.int .i64 n] 3)) (h5 : X.ownsRow (N + 7) 41 34 v L.length (refCells L)) (h6 : allFit L) (h7 : L.length ≤ 64) (h8 : Below N w X) (hz : D = N + 5)
    (hk : Keeps (withLoop (fun x => x = N + 1 + 1 + 1 + 1) D) W X) (hm : m = L.length + 1) (hc : ∃ rest, linesL b = pre' ++ rest ∧ readL b = readG L rest) :
    Keeps (withLoop (fun x => x = N + 1 + 1 + 1 + 1) D) W (X.setCell ⟨N + 1 + 1 + 1, 0, none⟩ (.int .i64 m)) ∧ ∃ v n L, RS b w N pre' v n L (X.setCell ⟨N + 1 + 1 + 1, 0, none⟩ (.int .i64 m)) := by
  refine ⟨hk.trans (Keeps.setCell _ _ _ (by simp only [withLoop]; omega)), v, m, L, ?_, ?_, ?_, one_setCell h4, ownsRow_setCell_below h5 (by show N + 1 + 1 + 1 < N + 7; omega) _, h6, h7, h8.setCell (by show N ≤ N + 1 + 1 + 1; omega) _, .inr ⟨hm, hc⟩⟩
  · rw [Below.heap_setCell _ _ _ _ (by show N ≠ N + 1 + 1 + 1; omega)]; exact h1
  · rw [Below.heap_setCell _ _ _ _ (by show N + 1 ≠ N + 1 + 1 + 1; omega)]; exact h2
  · rw [Below.heap_setCell _ _ _ _ (by show N + 1 + 1 ≠ N + 1 + 1 + 1; omega)]; exact h3
theorem RS.next {b : List UInt8} {w : World} {N : Nat} {pre pre' : List (List UInt8 × Bool)} {v : Value} {n D m : Nat} {L : List Rf} {W X : World} (h : RS b w N pre v n L X) (hz : D = N + 5)
    (hk : Keeps (withLoop (fun x => x = N + 1 + 1 + 1 + 1) D) W X) (hm : m = L.length + 1) (hc : ∃ rest, linesL b = pre' ++ rest ∧ readL b = readG L rest) :
    Keeps (withLoop (fun x => x = N + 1 + 1 + 1 + 1) D) W (X.setCell ⟨N + 1 + 1 + 1, 0, none⟩ (.int .i64 m)) ∧ ∃ v n L, RS b w N pre' v n L (X.setCell ⟨N + 1 + 1 + 1, 0, none⟩ (.int .i64 m)) := by
  obtain ⟨h1, h2, h3, h4, h5, h6, h7, h8, h9⟩ := h
  exact RS.step h1 h2 h3 h4 h5 h6 h7 h8 hz hk hm hc
/-- .. behind a reference that was laid -/
theorem RS.laid {b : List UInt8} {w : World} {N : Nat} {pre' : List (List UInt8 × Bool)} {v v' : Value} {n D m : Nat} {L : List Rf} {W X : World} (h1 : X.heap[N]? = some (.cells #[.slice none 0 0] 22)) (h2 : X.heap[N + 1]? = some (.cells #[.int .i64 0] 24)) (h3 : X.heap[N + 1 + 1]? = some (.cells #[v] 22))
    (h4 : X.heap[N + 1 + 1 + 1]? = some (.cells #[.int .i64 n] 3)) (h5 : X.ownsRow (N + 7) 41 34 v' L.length (refCells L)) (h6 : allFit L) (h7 : L.length ≤ 64) (h8 : Below N w X) (hz : D = N + 5)
    (hk : Keeps (withLoop (fun x => x = N + 1 + 1 + 1 + 1) D) W X) (hm : m = L.length + 1) (hc : ∃ rest, linesL b = pre' ++ rest ∧ readL b = readG L rest) :
    Keeps (withLoop (fun x => x = N + 1 + 1 + 1 + 1) D) W ((X.setCell ⟨N + 1 + 1, 0, none⟩ v').setCell ⟨N + 1 + 1 + 1, 0, none⟩ (.int .i64 m)) ∧ ∃ v n L, RS b w N pre' v n L ((X.setCell ⟨N + 1 + 1, 0, none⟩ v').setCell ⟨N + 1 + 1 + 1, 0, none⟩ (.int .i64 m)) := by
  refine RS.step (n := n) ?_ ?_ (one_setCell h3) ?_ (ownsRow_setCell_below h5 (by show N + 1 + 1 < N + 7; omega) _) h6 h7 (h8.setCell (by show N ≤ N + 1 + 1; omega) _) hz (hk.trans (Keeps.setCell _ _ _ (by simp only [withLoop]; omega))) hm hc
  · rw [Below.heap_setCell _ _ _ _ (by show N ≠ N + 1 + 1; omega)]; exact h1
  · rw [Below.heap_setCell _ _ _ _ (by show N + 1 ≠ N + 1 + 1; omega)]; exact h2
  · rw [Below.heap_setCell _ _ _ _ (by show N + 1 + 1 + 1 ≠ N + 1 + 1; omega)]; exact h4
/-- the end -/
theorem RS.done {b : List UInt8} {w : World} {N : Nat} {v : Value} {n D : Nat} {L : List Rf} {W : World} (h : RS b w N (linesL b) v n L W) (hN : w.heap.size = N) (hz : D = N + 5) (hD : W.heap[D]? = some (.deferred (some []))) :
    ((W.setCell ⟨N, 0, none⟩ v).setCell ⟨N + 1, 0, none⟩ (.int .i64 0)).heap[D]? = some (.deferred (some [])) ∧
    (((W.setCell ⟨N, 0, none⟩ v).setCell ⟨N + 1, 0, none⟩ (.int .i64 0)).putObj D (.deferred none)).heap[N]? = some (.cells #[v] 22) ∧
    (((W.setCell ⟨N, 0, none⟩ v).setCell ⟨N + 1, 0, none⟩ (.int .i64 0)).putObj D (.deferred none)).heap[N + 1]? = some (.cells #[.int .i64 0] 24) ∧
    ReadPost b w (.returned (.tuple #[v, .int .i64 0])) (((W.setCell ⟨N, 0, none⟩ v).setCell ⟨N + 1, 0, none⟩ (.int .i64 0)).putObj D (.deferred none)) := by
  obtain ⟨h1, h2, h3, h4, h5, h6, h7, h8, h9⟩ := h
  have hrd : readL b = (L, 0) := by
    rcases h9 with ⟨_, h, _⟩ | ⟨_, rest, k1, k2⟩
    · rw [linesL_step] at h; cases h
    · have : rest = [] := by simpa using k1
      rw [k2, this]; rfl
  refine ⟨?_, ?_, ?_, ?_⟩
  · rw [Below.heap_setCell _ _ _ _ (by show D ≠ N + 1; omega), Below.heap_setCell _ _ _ _ (by show D ≠ N; omega)]; exact hD
  · rw [World.putObj_heap_other (by omega), Below.heap_setCell _ _ _ _ (by show N ≠ N + 1; omega)]; exact one_setCell h1
  · rw [World.putObj_heap_other (by omega)]
    refine one_setCell (v := .int .i64 0) ?_
    rw [Below.heap_setCell _ _ _ _ (by show N + 1 ≠ N; omega)]; exact h2
  · refine ReadPost.good hrd h6 (base := N + 7) ?_ (by rw [hN]; exact below_putObj ((h8.setCell (Nat.le_refl _) _).setCell (by show N ≤ N + 1; omega) _) (by omega) _)
    refine ownsRow_same h5 (fun j hj => ?_)
    have hjl := h5.lt j hj
    rw [World.putObj_heap_other (by omega), Below.heap_setCell _ _ _ _ (by show j ≠ N + 1; omega), Below.heap_setCell _ _ _ _ (by show j ≠ N; omega)]
/-- a reference is laid behind the others -/
theorem RS.grown {b : List UInt8} {w : World} {N : Nat} {pre : List (List UInt8 × Bool)} {v : Value} {n : Nat} {L : List Rf} {X Y : World} {r : Rf} {v' : Value} (h : RS b w N pre v n L X)
    (hg : X.grownBy Y v.ownBlock) (ho : Y.ownsRow (N + 7) 41 34 v' (L ++ [r]).length (refCells (L ++ [r]))) :
    Y.heap[N + 1 + 1]? = some (.cells #[v] 22) ∧ Y.heap[N]? = some (.cells #[.slice none 0 0] 22) ∧ Y.heap[N + 1]? = some (.cells #[.int .i64 0] 24) ∧ Y.heap[N + 1 + 1 + 1]? = some (.cells #[.int .i64 n] 3) ∧ Below N w Y := by
  obtain ⟨h1, h2, h3, h4, h5, h6, h7, h8, h9⟩ := h
  have hne : ∀ k, k < N + 7 → some k ≠ v.ownBlock := fun k hk e => by have := (h5.lt k e.symm).1; omega
  exact ⟨(hg.block _ (lt_block h3) (hne _ (by omega))).trans h3, (hg.block _ (lt_block h1) (hne _ (by omega))).trans h1, (hg.block _ (lt_block h2) (hne _ (by omega))).trans h2, (hg.block _ (lt_block h4) (hne _ (by omega))).trans h4,
    h8.grown hg (by have := lt_block h1; omega) (fun k e => by have := (h5.lt k e).1; omega)⟩

set_option maxHeartbeats 2000000 in
set_option maxRecDepth 100000 in
theorem readAll_calls (A : Option Addr) (cap : Nat) (b : List UInt8) (w : World) (hl : b.length ≤ 140737488351232) (hA : CellsIn w A (Lib.byteCells b)) (hE : Env w) :
    Calls Tryd.prog 13 #[.slice A b.length cap] w (ReadPost b w) := by
  have hb0 : Below w.heap.size w ((((w.alloc (Obj.cells #[Value.slice none 0 0] 22)).alloc (Obj.cells #[Value.int IntKind.i64 0] 24)).alloc (Obj.cells #[Value.slice none 0 0] 22)).alloc (Obj.cells #[Value.int IntKind.i64 0] 3)) :=
    ((((Below.refl _ _).alloc (Nat.le_refl _) _).alloc (by simp) _).alloc (by simp; omega) _).alloc (by simp; omega) _
  have HT := Lib.hid (run_text _ A cap b (hA.below hb0))
  have HE := Lib.hid hE
  have HL := Lib.hid hl
  clear hE hl hA
  refine (callsIn_wide (n := 9)).1 ?_
  refine callsIn_of_wp_marks Tryd.func13 rfl trivial ?_ rfl
  simp only [Tryd.ntmps13, List.size_toArray, List.length_cons, List.length_nil, Nat.reduceAdd, Nat.reduceSub, Array.replicate_succ, Array.replicate_zero, List.push_toArray, List.append_toArray, List.nil_append, List.cons_append]
  gi_wp2_with (first | (rw [HT.out]) | (refine ⟨trivial, ?_⟩; gi_at_call 31; refine (callsIn_wide.2 (lines_calls _ _)).mono ?_; rintro e w' ⟨rfl, rfl⟩))
  obtain ⟨W0, hW0⟩ : ∃ W0, W0 = (((w.alloc (Obj.cells #[Value.slice none 0 0] 22)).alloc (Obj.cells #[Value.int IntKind.i64 0] 24)).alloc (Obj.cells #[Value.slice none 0 0] 22)).alloc (Obj.cells #[Value.int IntKind.i64 0] 3) := ⟨_, rfl⟩
  have hz : (W0.alloc (.cells #[.string ⟨b.toArray⟩] 9)).heap.size = w.heap.size + 5 := by rw [hW0]; simp
  have hz0 : W0.heap.size = w.heap.size + 1 + 1 + 1 + 1 := by rw [hW0]; simp
  have hbx : (W0.alloc (.cells #[.string ⟨b.toArray⟩] 9)).heap[w.heap.size + 1 + 1 + 1 + 1]? = some (.cells #[.string ⟨b.toArray⟩] 9) := by rw [← hz0]; exact heap_alloc_new W0 _
  have hr0 : RS b w w.heap.size [] (.slice none 0 0) 0 [] (W0.alloc (.cells #[.string ⟨b.toArray⟩] 9)) := by
    refine ⟨?_, ?_, ?_, ?_, World.ownsRow_nil _ _ _ _, (fun r hr => by cases hr), by simp, ?_, .inl ⟨rfl, rfl, rfl⟩⟩
    · rw [Lib.alloc_old _ _ _ (by omega), hW0, Lib.alloc_old _ _ _ (by simp; omega), Lib.alloc_old _ _ _ (by simp; omega), Lib.alloc_old _ _ _ (by simp)]
      exact heap_alloc_new w _
    · rw [Lib.alloc_old _ _ _ (by omega), hW0, Lib.alloc_old _ _ _ (by simp), Lib.alloc_old _ _ _ (by simp)]
      have := heap_alloc_new (w.alloc (Obj.cells #[Value.slice none 0 0] 22)) (Obj.cells #[Value.int IntKind.i64 0] 24)
      simpa using this
    · rw [Lib.alloc_old _ _ _ (by omega), hW0, Lib.alloc_old _ _ _ (by simp)]
      have := heap_alloc_new ((w.alloc (Obj.cells #[Value.slice none 0 0] 22)).alloc (Obj.cells #[Value.int IntKind.i64 0] 24)) (Obj.cells #[Value.slice none 0 0] 22)
      simpa using this
    · rw [Lib.alloc_old _ _ _ (by omega), hW0]
      have := heap_alloc_new (((w.alloc (Obj.cells #[Value.slice none 0 0] 22)).alloc (Obj.cells #[Value.int IntKind.i64 0] 24)).alloc (Obj.cells #[Value.slice none 0 0] 22)) (Obj.cells #[Value.int IntKind.i64 0] 3)
      simpa using this
    · rw [hW0]; exact hb0.alloc (by simp; omega) _
  have hbw : Below w.heap.size w (W0.alloc (.cells #[.string ⟨b.toArray⟩] 9)) := hr0.2.2.2.2.2.2.2.1
  rw [← hW0]
  generalize W0.alloc (.cells #[.string ⟨b.toArray⟩] 9) = w0 at *
  clear hW0 hb0 hz0
  clear HT
  generalize hN : w.heap.size = N at *
  refine wpIn_rangeG (gf := 53) (lb := #[.pointer (some ⟨N + 1 + 1 + 1 + 1, 0, none⟩)]) rfl (enters_of Tryd.func53 (by kernel_rfl) rfl) (lines1_seq (9 - 1) (N + 1 + 1 + 1 + 1) b w0 HL.out hbx) (Below.refl _ _) (fun k h => by omega) (fun _ => rfl)
    (fun pre W => ∃ v n L, RS b w N pre v n L W)
    (fun c pre W => c = .ret ∧ RX b w N W)
    (fun pre x a W => a = { tmps := #[.slice A b.length cap, undef, .pointer (some ⟨N, 0, none⟩), .pointer (some ⟨N + 1, 0, none⟩), .pointer (some ⟨N + 1 + 1, 0, none⟩), .pointer (some ⟨N + 1 + 1 + 1, 0, none⟩), .string ⟨x.1.toArray⟩, .bool x.2, undef, undef, .slice A b.length cap, .string ⟨b.toArray⟩, .func (.func 53) #[] #[.pointer (some ⟨N + 1 + 1 + 1 + 1, 0, none⟩)], .string ⟨x.1.toArray⟩, .bool x.2, undef, undef, undef, undef, undef, undef, undef, undef, undef, undef, undef, undef, undef, undef, undef, undef, undef, undef, undef, undef, undef, undef, undef, undef, undef, undef, undef, undef, undef, undef, undef, undef, undef, undef, undef, undef, undef, undef, undef, undef, undef, undef, undef, undef, undef, undef], defers := [] } ∧ ∃ v n L, RS b w N pre v n L W)
    ?hI ?hIx ?hAx ⟨_, _, _, hr0⟩ ?hassign ?hbody ?hdone ?hstop
  case hI =>
    rintro pre A B ⟨v, n, L, h⟩ hm
    rw [hz] at hm
    exact ⟨v, n, L, h.moves hm⟩
  case hIx =>
    rintro c pre A B ⟨h0, h1⟩ hm
    rw [hz] at hm
    exact ⟨h0, h1.moves hm⟩
  case hAx =>
    rintro pre x a ⟨⟩ A B ⟨h0, v, n, L, h⟩ hm
    rw [hz] at hm
    exact ⟨h0, v, n, L, h.moves hm⟩
  case hassign =>
    rintro l pre x W K hpre hzz h hK
    gi_wp2
    exact hK _ _ (Keeps.refl _ _) ⟨rfl, h⟩
  case hbody =>
    rintro l pre x a W hpre hzz ⟨rfl, v, n, L, hRS⟩
    have hlen : x.1.length ≤ 140737488351232 := by
      obtain ⟨t, ht⟩ := hpre
      have := cut_all b x (by rw [← ht]; simp)
      have := HL.out
      omega
    have h32 := fun W => ref_calls ⟨x.1.toArray⟩ W (by show x.1.toArray.size ≤ _; simpa using hlen)
    simp only at h32
    have hbW := hRS.2.2.2.2.2.2.2.1
    have hEW : Env W := HE.out.below (by rw [hN]; exact hbW)
    have HEW := Lib.hid hEW
    have H32 := Lib.hid h32
    have HP := Lib.hid hpre
    have HRS := Lib.hid hRS
    have HZ := Lib.hid hz
    have HZZ := Lib.hid hzz
    have HN := Lib.hid hN
    clear hlen h32 hEW hpre hRS hbW hz hzz hN
    obtain ⟨xl, xe⟩ := x
    simp only at H32 HP ⊢
    gi_upto_region 7 with (first | (with_reducible refine wpListIn_alloc_ref ?_) | (refine ⟨trivial, ?_⟩; gi_at_call 32; refine (CallsIn.inRound l (callsIn_wide.2 (H32.out _ HEW.out))).mono ?_; rintro e w2 ⟨r', hfr', he, hx', hb2⟩; obtain ⟨ok, hok⟩ : ∃ ok, ok = (refS xl).isSome := ⟨_, rfl⟩; rw [← hok] at he; subst he; replace hok := Lib.hid hok) | ((with_reducible apply wpListIn_store_ref w2 r' zeroR hfr' zeroR_fits); rfl; rfl))
    have hb3 : Below W.heap.size W (w2.alloc (.cells (refV r').toArray 41)) := hb2.alloc hb2.size _
    have HRG := Lib.hid (rangeAt_new w2 (refV r') 41)
    have hg8 : w2.heap.size + 1 = (w2.alloc (.cells (refV r').toArray 41)).heap.size := by simp
    have hg8' : W.heap.size ≤ w2.heap.size := hb2.size
    generalize w2.heap.size = g8 at *
    generalize w2.alloc (.cells (refV r').toArray 41) = w3 at *
    have HFR := Lib.hid hfr'
    have HX := Lib.hid hx'
    have HB3 := Lib.hid hb3
    have HG8 := Lib.hid hg8
    have HG8' := Lib.hid hg8'
    have hR3 := HRS.out.below hb3
    have HR3 := Lib.hid hR3
    have HKW := Lib.hid (Keeps.of_below (fp := withLoop (fun x => x = N + 1 + 1 + 1 + 1) w0.heap.size) hb3)
    have H7 := Lib.hid hR3.2.2.2.2.2.2.1
    have h9 := hR3.2.2.2.2.2.2.2.2
    have hnb : (n : Int) ≤ 100 := by have := H7.out; rcases h9 with ⟨h, _⟩ | ⟨h, _⟩ <;> omega
    have hnb0 : (0 : Int) ≤ n := by omega
    obtain ⟨⟨c1, f1⟩, ⟨c2, f2⟩, ⟨c3, f3⟩, c4, f4⟩ := hR3.cells
    have HOK := hok
    clear hb2 hx' hfr' hb3 hg8 hg8' hok hR3 HEW H32
    cases xe with
    | false =>
      have HC := Lib.hid (show readL b = ([], 3) by
        obtain ⟨t, ht⟩ := HP.out
        rcases h9 with ⟨_, rfl, _⟩ | ⟨_, rest, h1, h2⟩
        · unfold readL
          rw [← ht]; rfl
        · rw [← ht, List.append_assoc] at h1
          have h3 := List.append_cancel_left h1
          rw [h2, ← h3]
          exact readG_bad (.inl rfl))
      clear h9
      gi_wp2_with fail
      exact HR3.out.bad HZ.out HKW.out HC.out
    | true =>
      rcases h9 with ⟨hn, hpr, hL0⟩ | ⟨hn, rest, hr1, hr2⟩
      · obtain ⟨t, ht⟩ := HP.out
        rw [hpr] at ht
        have hlines : readL b = if xl = firstL then readG [] t else ([], 3) := by
          unfold readL
          rw [← ht]
          show (if true = true ∧ xl = firstL then readG [] t else ([], 3)) = _
          simp only [true_and]
        have HLS := Lib.hid hlines
        have HPR := Lib.hid hpr
        have HL0 := Lib.hid hL0
        have HTT := Lib.hid ht
        have HNN := Lib.hid hn
        have hn0 : (n : Int) ≤ 0 := by omega
        have hn65 : ¬ (n : Int) > 64 := by omega
        have hq1 : ((n : Int) == 0) = true := by rw [beq_iff_eq]; omega
        clear hlines hpr hL0 ht hn
        by_cases hfl : xl = firstL
        · have hq2 : (xl == [115, 116, 105, 108, 108, 97, 103, 101, 32, 49]) = true := by rw [hfl]; rfl
          have HFL := Lib.hid hfl
          clear hfl
          gi_wp2_with (refine ⟨trivial, ?_⟩)
          refine HR3.out.next (m := n + 1) HZ.out HKW.out (by rw [HNN.out, HL0.out]; rfl) ⟨t, ?_, ?_⟩
          · rw [HPR.out]; exact HTT.out.symm
          · rw [HLS.out, if_pos HFL.out, HL0.out]
        · have hq2 : (xl == [115, 116, 105, 108, 108, 97, 103, 101, 32, 49]) = false := by rw [beq_eq_false_iff_ne]; exact hfl
          have HC := Lib.hid (show readL b = ([], 3) by rw [HLS.out, if_neg hfl])
          clear hfl
          gi_wp2_with fail
          exact HR3.out.bad HZ.out HKW.out HC.out
      · obtain ⟨t, ht⟩ := HP.out
        rw [← ht, List.append_assoc] at hr1
        have hr3 := List.append_cancel_left hr1
        rw [← hr3] at hr2
        have HTT := Lib.hid ht
        have HNN := Lib.hid hn
        have HR2 := Lib.hid (show readL b = readG L ((xl, true) :: t) from hr2)
        have hn1 : (1 : Int) ≤ n := by omega
        have hq1 : ((n : Int) == 0) = false := by rw [beq_eq_false_iff_ne]; omega
        clear ht hn hr1 hr2 hr3
        cases ok with
        | false =>
          have HC := Lib.hid (show readL b = ([], 3) by
            rw [HR2.out]
            refine readG_bad (.inr ?_)
            have := HOK.out
            cases hq : refS xl with
            | none => rfl
            | some y => rw [hq] at this; cases this)
          have hn65 : (n : Int) > 64 ∨ ¬ (n : Int) > 64 := by omega
          gi_wp2_with fail
          exact HR3.out.bad HZ.out HKW.out HC.out
        | true =>
          have hsome : refS xl = some r' := by
            have := HOK.out
            cases hq : refS xl with
            | none => rw [hq] at this; cases this
            | some y => rw [HX.out y hq]
          have hrd := HR2.out
          rw [readG_some hsome] at hrd
          have HRD := Lib.hid hrd
          clear hsome hrd
          by_cases h64 : 64 ≤ L.length
          · have HC := Lib.hid (show readL b = ([], 8) by rw [HRD.out, if_pos h64])
            have hn65 : (n : Int) > 64 := by have := HNN.out; omega
            clear h64
            gi_wp2_with fail
            exact HR3.out.bad HZ.out HKW.out HC.out
          · have hrd := HRD.out
            rw [if_neg h64] at hrd
            have HRD2 := Lib.hid hrd
            have hn65 : ¬ (n : Int) > 64 := by have := HNN.out; omega
            have H63 := Lib.hid (show L.length < 64 by omega)
            clear h64 hrd
            obtain ⟨a1, cap1, hv, hca, hri⟩ := refsIn_of_owns HR3.out.2.2.2.2.2.1 HR3.out.2.2.2.2.1
            subst hv
            have H26 := Lib.hid (twice_calls a1 cap1 L r'.d w3 (by have := H63.out; omega) hri HFR.out.1)
            have HRD1 := Lib.hid (by have := range_d HRG.out; rwa [Nat.zero_add] at this : w3.rangeAt g8 1 (digV r'.d))
            have hn64 : (n : Int) ≤ 64 := by omega
            clear hca hri hn65
            cases hd : hasD L r'.d with
            | true =>
              have HC := Lib.hid (show readL b = ([], 7) by rw [HRD2.out, if_pos hd])
              rw [hd] at H26
              clear hd
              gi_wp2_with (first | ((with_reducible apply wpListIn_load_dig g8 1 r'.d); rfl; exact HRD1.out; exact HFR.out.1; rfl) | (refine ⟨trivial, ?_⟩; gi_at_call 26; refine (CallsIn.inRound l (callsIn_wide.2 H26.out)).mono ?_; rintro e w4 ⟨rfl, hb4⟩; obtain ⟨⟨c1, f1⟩, ⟨c2, f2⟩, ⟨c3, f3⟩, c4, f4⟩ := (HR3.out.below hb4).cells))
              exact (HR3.out.below hb4).bad HZ.out (HKW.out.trans (Keeps.of_below hb4)) HC.out
            | false =>
              have HC := Lib.hid (show readL b = readG (L ++ [r']) t by rw [HRD2.out, if_neg (by rw [hd]; simp)])
              rw [hd] at H26
              clear hd
              gi_upto_region 13 with (first | ((with_reducible apply wpListIn_load_dig g8 1 r'.d); rfl; exact HRD1.out; exact HFR.out.1; rfl) | (refine ⟨trivial, ?_⟩; gi_at_call 26; refine (CallsIn.inRound l (callsIn_wide.2 H26.out)).mono ?_; rintro e w4 ⟨rfl, hb4⟩))
              have HR4 := Lib.hid (HR3.out.below hb4)
              have HRG4 := Lib.hid (rangeAt_below HRG.out hb4)
              have HK4 := Lib.hid (HKW.out.trans (Keeps.of_below (fp := withLoop (fun x => x = N + 1 + 1 + 1 + 1) w0.heap.size) hb4))
              have HB4 := Lib.hid (show N + 7 ≤ w4.heap.size by have := HB3.out.size; have := hb4.size; have := HZZ.out; have := HZ.out; omega)
              clear hb4 c1 f1 c2 f2 c3 f3 c4 f4
              obtain ⟨⟨c1, f1⟩, ⟨c2, f2⟩, ⟨c3, f3⟩, c4, f4⟩ := HR4.out.cells
              have HNE := Lib.hid (HR4.out.2.2.2.2.1.lt)
              gi_wp2_with (first | ((with_reducible apply wpListIn_load_ref g8 r'); rfl; exact HRG4.out; exact HFR.out) | ((with_reducible apply wpListIn_buildSlice_ref r' HFR.out); rfl) | (gi_at_builtin; refine wpListIn_append_ref w4 (N + 7) _ L r' HR4.out.2.2.2.2.2.1 HFR.out (by have := H63.out; omega) HB4.out HR4.out.2.2.2.2.1 rfl rfl ?_; intro a2 cap2 w5 hc2 hri hown hgrow; have hG := HR4.out.grown hgrow hown; have HKG := Lib.hid (HK4.out.trans (Keeps.of_grown (fp := withLoop (fun x => x = N + 1 + 1 + 1 + 1) w0.heap.size) hgrow (fun k e => by have := (HNE.out k e).1; have := HZ.out; simp only [withLoop]; omega))); have HOWN := Lib.hid hown; have HGG := Lib.hid hG; have c3' := cell_of_one' hG.1; have f3' : w5.frozen? ⟨N + 1 + 1, 0, none⟩ = false := Lib.frozen_of_heap hG.1 0; have c4' := cell_of_one' hG.2.2.2.1; have f4' : w5.frozen? ⟨N + 1 + 1 + 1, 0, none⟩ = false := Lib.frozen_of_heap hG.2.2.2.1 0; clear hc2 hri hown hgrow hG))
              obtain ⟨g3, g1, g2, g4, g5⟩ := HGG.out
              refine RS.laid (m := n + 1) g1 g2 g3 g4 HOWN.out (allFit_snoc HR4.out.2.2.2.2.2.1 HFR.out) (by have := H63.out; simp; omega) g5 HZ.out HKG.out (by rw [HNN.out]; simp) ⟨t, HTT.out.symm, HC.out⟩
  case hdone =>
    rintro W ⟨v, n, L, hR⟩ hD hzz
    obtain ⟨a1, cap1, hv, hv1, hv2⟩ := refsIn_of_owns hR.2.2.2.2.2.1 hR.2.2.2.2.1
    subst hv
    clear hv1 hv2
    obtain ⟨⟨c1, f1⟩, ⟨c2, f2⟩, ⟨c3, f3⟩, c4, f4⟩ := hR.cells
    have HDN := Lib.hid (hR.done hN hz hD)
    clear hR hD hz
    gi_wp2
    obtain ⟨e0, e1, e2, e3⟩ := HDN.out
    exact postM_ret rfl e0 (results_boxes rfl _ _ N (N + 1) _ (.int .i64 0) 22 24 rfl rfl e1 e2 Tryd.isAgg22 Tryd.sizeOf22 Tryd.isAgg24 Tryd.sizeOf24) e3
  case hstop =>
    rintro c pre W hpre ⟨rfl, x, h0, h1, h2, h3⟩ hD hzz
    have HX0 := Lib.hid h0
    have HX1 := Lib.hid h1
    have HX2 := Lib.hid h2
    have HX3 := Lib.hid h3
    clear h0 h1 h2 h3
    gi_wp2
    refine postM_ret rfl hD (results_boxes rfl _ _ N (N + 1) (.slice none 0 0) (.int .i64 x) 22 24 rfl rfl ((World.putObj_heap_other (by omega)).trans HX1.out) ((World.putObj_heap_other (by omega)).trans HX2.out) Tryd.isAgg22 Tryd.sizeOf22 Tryd.isAgg24 Tryd.sizeOf24) ?_
    exact ReadPost.bad HX0.out (by rw [hN]; exact below_putObj HX3.out (by omega) _)
end Go.Proofs.YtolaecdopfmbgaaDoor
