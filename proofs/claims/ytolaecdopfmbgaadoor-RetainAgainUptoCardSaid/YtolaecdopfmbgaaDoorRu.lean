/- Equal rows of names; the two fixed inputs of lives. No condition. -/
import Derived.Test.YtolaecdopfmbgaaDoorRt
namespace Go.Proofs.YtolaecdopfmbgaaDoor
open Go.RowKit Go.Shelf

theorem texts_same (l : List (List UInt8)) (va vb : Value) (w : World) (ha : NamIn w va l) (hb : NamIn w vb l) (hl : l.length ≤ 1073741824) :
    Calls Tryd.prog 22 #[va, vb] w fun e w' => e = .returned (.bool true) ∧ ∃ n, w' = w.drewN n := by
  obtain ⟨a1, c1, rfl, h1⟩ := ha.at_
  obtain ⟨a2, c2, rfl, h2⟩ := hb.at_
  have hl' : (l.length : Int) ≤ 1073741824 := by omega
  have H1 := Lib.hid h1
  have H2 := Lib.hid h2
  clear h1 h2 hl ha hb
  go_enter Tryd.func22, Tryd.ntmps22
  go_wp2_with fail
  go_loopw [5] (fun i wr => ∃ k : Nat, i = .int .i64 k ∧ k ≤ l.length ∧ ∃ n, wr = w.drewN n) (fun i _ => l.length - (intOf i).toNat)
  case atStart => exact ⟨0, rfl, by omega, 0, rfl⟩
  case round =>
    obtain ⟨k, rfl, hk, n, rfl⟩ := hrel
    by_cases h : k < l.length
    · obtain ⟨b1, o1, rfl, e1⟩ := H1.out w (Below.refl _ w) k h
      obtain ⟨b2, o2, rfl, e2⟩ := H2.out w (Below.refl _ w) k h
      generalize l[k] = s at *
      go_wp2_with fail
      go_quiet (fail)
      go_wp2
      go_roundw
      case rel => exact ⟨k + 1, by go_num, by omega, n + nq, by first | rfl | rw [World.drewN_drewN]⟩
      case measure => simp [intOf]; omega
    · go_wp2
      go_ret
      exact ⟨rfl, n, rfl⟩

theorem namIn_new2 (w : World) (x y : List UInt8) : NamIn (w.alloc (.cells #[.string ⟨x.toArray⟩, .string ⟨y.toArray⟩] 9)) (.slice (some ⟨w.heap.size, 0, none⟩) 2 2) [x, y] := by
  have h0 := World.alloc_heap_new w (.cells #[.string ⟨x.toArray⟩, .string ⟨y.toArray⟩] 9)
  refine ⟨_, _, rfl, fun k hk => ⟨w.heap.size, 0, rfl, ?_⟩⟩
  have hk' : k < 2 := hk
  have hc : k = 0 ∨ k = 1 := by omega
  rcases hc with rfl | rfl
  · exact cell_of_row _ _ 0 _ _ _ h0
  · exact cell_of_row _ _ 1 _ _ _ h0
def livesR : List Rul := [([118, 42], 1)]
def livesL : List (List UInt8) := [[118, 49], [120], [118, 49, 48], [118, 50]]
theorem lives_keep : keepV livesR (rowV livesL) = ([[118, 49, 48], [120]], [[118, 49], [118, 50]]) := by decide +kernel
set_option maxRecDepth 100000 in
set_option maxHeartbeats 4000000 in
theorem lives_calls (w : World) : Calls Tryd.prog 25 #[] w fun e w' => e = .returned (.bool true) ∧ Below w.heap.size w w' := by
  go_enter Tryd.func25, Tryd.ntmps25
  go_wp2_with fail
  have hk0 : Below w.heap.size w ((w.alloc (.cells #[.string ⟨#[118, 42]⟩, .int .i64 1] 80)).alloc (.cells #[.string ⟨#[118, 49]⟩, .string ⟨#[120]⟩, .string ⟨#[118, 49, 48]⟩, .string ⟨#[118, 50]⟩] 9)) :=
    ((Below.refl _ w).alloc (Nat.le_refl _) _).alloc (by simp) _
  have hr : RulIn ((w.alloc (.cells #[.string ⟨#[118, 42]⟩, .int .i64 1] 80)).alloc (.cells #[.string ⟨#[118, 49]⟩, .string ⟨#[120]⟩, .string ⟨#[118, 49, 48]⟩, .string ⟨#[118, 50]⟩] 9)) (.slice (some ⟨w.heap.size, 0, none⟩) 1 1) livesR := by
    have h0 : ((w.alloc (.cells #[.string ⟨#[118, 42]⟩, .int .i64 1] 80)).alloc (.cells #[.string ⟨#[118, 49]⟩, .string ⟨#[120]⟩, .string ⟨#[118, 49, 48]⟩, .string ⟨#[118, 50]⟩] 9)).heap[w.heap.size]? = some (.cells #[.string ⟨#[118, 42]⟩, .int .i64 1] 80 (0, 0)) := by
      rw [Below.heap_alloc _ _ _ (by simp)]; exact World.alloc_heap_new _ _
    refine ⟨_, _, rfl, fun k hk => ?_⟩
    have hk' : k < 1 := hk
    obtain rfl : k = 0 := by omega
    exact ⟨w.heap.size, 0, rfl, (lt_of_block h0), cell_of_row _ _ 0 _ _ _ h0, cell_of_row _ _ 1 _ _ _ h0⟩
  have hn : NamIn ((w.alloc (.cells #[.string ⟨#[118, 42]⟩, .int .i64 1] 80)).alloc (.cells #[.string ⟨#[118, 49]⟩, .string ⟨#[120]⟩, .string ⟨#[118, 49, 48]⟩, .string ⟨#[118, 50]⟩] 9)) (.slice (some ⟨w.heap.size + 1, 0, none⟩) 4 4) livesL := by
    have h0 : ((w.alloc (.cells #[.string ⟨#[118, 42]⟩, .int .i64 1] 80)).alloc (.cells #[.string ⟨#[118, 49]⟩, .string ⟨#[120]⟩, .string ⟨#[118, 49, 48]⟩, .string ⟨#[118, 50]⟩] 9)).heap[w.heap.size + 1]? = some (.cells #[.string ⟨#[118, 49]⟩, .string ⟨#[120]⟩, .string ⟨#[118, 49, 48]⟩, .string ⟨#[118, 50]⟩] 9 (0, 0)) := by
      have := World.alloc_heap_new (w.alloc (.cells #[.string ⟨#[118, 42]⟩, .int .i64 1] 80)) (.cells #[.string ⟨#[118, 49]⟩, .string ⟨#[120]⟩, .string ⟨#[118, 49, 48]⟩, .string ⟨#[118, 50]⟩] 9)
      rwa [World.size_alloc] at this
    refine ⟨_, _, rfl, fun k hk => ⟨w.heap.size + 1, 0, rfl, ?_⟩⟩
    have hk' : k < 4 := hk
    have hc : k = 0 ∨ k = 1 ∨ k = 2 ∨ k = 3 := by omega
    rcases hc with rfl | rfl | rfl | rfl
    · exact cell_of_row _ _ 0 _ _ _ h0
    · exact cell_of_row _ _ 1 _ _ _ h0
    · exact cell_of_row _ _ 2 _ _ _ h0
    · exact cell_of_row _ _ 3 _ _ _ h0
  have hrs : RulS livesR := by
    intro r hr
    have : r = ([118, 42], 1) := by simpa [livesR] using hr
    subst this
    exact ⟨by decide, by decide, by decide⟩
  have hsm : Small livesL := by
    intro x hx
    simp [livesL] at hx
    rcases hx with rfl | rfl | rfl | rfl <;> decide
  have hK := keep_calls livesR livesL _ _ _ hr hrs (by decide) hn hsm (by decide)
  rw [lives_keep] at hK
  generalize (w.alloc (.cells #[.string ⟨#[118, 42]⟩, .int .i64 1] 80)).alloc (.cells #[.string ⟨#[118, 49]⟩, .string ⟨#[120]⟩, .string ⟨#[118, 49, 48]⟩, .string ⟨#[118, 50]⟩] 9) = w1 at *
  have HB1 := Lib.hid hk0
  clear hk0 hr hn hrs hsm
  refine hK.mono ?_
  rintro e w2 ⟨v1, v2, rfl, o1, o2, b2⟩
  have hN1 := Lib.hid (NamIn.of_owns o1)
  have hN2 := Lib.hid (NamIn.of_owns o2)
  have HB2 : Hid (Below w.heap.size w w2) := HB1.out.trans (b2.mono HB1.out.size)
  have hs2 := HB2.out.size
  clear o1 o2 b2 HB1 hK
  go_wp2_with fail
  have hb3 : Below w2.heap.size w2 (w2.alloc (.cells #[.string ⟨#[118, 49, 48]⟩, .string ⟨#[120]⟩] 9)) := (Below.refl _ _).alloc (Nat.le_refl _) _
  refine (texts_same [[118, 49, 48], [120]] _ _ _ (hN1.out.below hb3) (namIn_new2 _ _ _) (by decide)).mono ?_
  rintro e w3 ⟨rfl, n, rfl⟩
  have hb4 : Below w2.heap.size w2 ((w2.alloc (.cells #[.string ⟨#[118, 49, 48]⟩, .string ⟨#[120]⟩] 9)).drewN n) := below_drewN hb3 n
  generalize (w2.alloc (.cells #[.string ⟨#[118, 49, 48]⟩, .string ⟨#[120]⟩] 9)).drewN n = w3 at *
  have HB4 := Lib.hid hb4
  have hs4 := hb4.size
  clear hb3 hb4
  go_wp2_with fail
  have hb5 : Below w3.heap.size w3 (w3.alloc (.cells #[.string ⟨#[118, 49]⟩, .string ⟨#[118, 50]⟩] 9)) := (Below.refl _ _).alloc (Nat.le_refl _) _
  refine (texts_same [[118, 49], [118, 50]] _ _ _ ((hN2.out.below HB4.out).below hb5) (namIn_new2 _ _ _) (by decide)).mono ?_
  rintro e w4 ⟨rfl, n2, rfl⟩
  have hb6 : Below w3.heap.size w3 ((w3.alloc (.cells #[.string ⟨#[118, 49]⟩, .string ⟨#[118, 50]⟩] 9)).drewN n2) := below_drewN hb5 n2
  generalize (w3.alloc (.cells #[.string ⟨#[118, 49]⟩, .string ⟨#[118, 50]⟩] 9)).drewN n2 = w4 at *
  have HB6 := Lib.hid hb6
  clear hb5 hb6
  go_wp2_with fail
  go_ret
  exact ⟨rfl, HB2.out.trans ((HB4.out.trans (HB6.out.mono hs4)).mono hs2)⟩
end Go.Proofs.YtolaecdopfmbgaaDoor
