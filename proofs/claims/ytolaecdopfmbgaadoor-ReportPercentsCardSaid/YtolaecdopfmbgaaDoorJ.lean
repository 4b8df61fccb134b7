/- The reference's Same, of bytes and of references: for every two rows. -/
import Derived.Test.YtolaecdopfmbgaaDoorI
namespace Go.Proofs.YtolaecdopfmbgaaDoor
open Go.RowKit

theorem takes_differ {α : Type} {xs ys : List α} {k : Nat} {x y : α} (hx : xs[k]? = some x) (hy : ys[k]? = some y) (h : x ≠ y) : xs ≠ ys := fun e => by
  subst e
  rw [hx] at hy
  exact h (by simpa using hy)
theorem takes_next {α : Type} {xs ys : List α} {k : Nat} {x : α} (hx : xs[k]? = some x) (hy : ys[k]? = some x) (h : xs.take k = ys.take k) : xs.take (k + 1) = ys.take (k + 1) := by
  rw [List.take_add_one, List.take_add_one, hx, hy, h]
theorem takes_all {α : Type} {xs ys : List α} (hl : xs.length = ys.length) (h : xs.take xs.length = ys.take xs.length) : xs = ys := by
  rw [List.take_length, hl, List.take_length] at h; exact h

set_option maxHeartbeats 1000000 in
set_option maxRecDepth 100000 in
theorem same_calls (A B : Option Addr) (c1 c2 : Nat) (xs ys : List UInt8) (w : World) (hl1 : xs.length ≤ 140737488351232) (hl2 : ys.length ≤ 140737488351232)
    (hA : CellsIn w A (Lib.byteCells xs)) (hB : CellsIn w B (Lib.byteCells ys)) :
    Calls Tryd.prog 11 #[.slice A xs.length c1, .slice B ys.length c2] w fun e w' => e = .returned (.bool (decide (xs = ys))) ∧ ∃ n, w' = w.drewN n := by
  have g1 : (xs.length : Int) ≤ 140737488351232 := by omega
  have g2 : (ys.length : Int) ≤ 140737488351232 := by omega
  clear hl1 hl2
  by_cases hl : xs.length = ys.length
  · have hli : ((xs.length : Int) == (ys.length : Int)) = true := by simp [hl]
    have HLE := Lib.hid hl
    have hle : (xs.length : Int) = ys.length := by omega
    clear hl
    go_enter Tryd.func11, Tryd.ntmps11
    go_wp2
    go_loopw [5] (fun c wr => ∃ k n : Nat, (k : Int) ≤ xs.length ∧ c = .int .i64 k ∧ xs.take k = ys.take k ∧ wr = w.drewN n) (fun c _ => xs.length - (intOf c).toNat)
    case atStart => exact ⟨0, 0, by omega, rfl, rfl, rfl⟩
    case round =>
      obtain ⟨k, n, hk, rfl, hsame, rfl⟩ := hrel
      by_cases hlt : (k : Int) < xs.length
      · obtain ⟨x, hx⟩ : ∃ x, xs[k]? = some x := ⟨_, List.getElem?_eq_getElem (by omega)⟩
        obtain ⟨y, hy⟩ : ∃ y, ys[k]? = some y := ⟨_, List.getElem?_eq_getElem (by omega)⟩
        obtain ⟨b1, o1, rfl, d1⟩ := hA k (.int .u8 x.toNat) (by rw [Lib.byteCells, List.getElem?_map, hx]; rfl)
        obtain ⟨b2, o2, rfl, d2⟩ := hB k (.int .u8 y.toNat) (by rw [Lib.byteCells, List.getElem?_map, hy]; rfl)
        have hlt2 : (k : Int) < ys.length := by omega
        have HX := Lib.hid hx
        have HY := Lib.hid hy
        have HS := Lib.hid hsame
        clear hx hy hsame hA hB hle
        by_cases hq : x = y
        · subst hq
          go_wp2
          go_quiet (fail)
          go_wp2
          go_round
          case rel => exact ⟨k + 1, _, by omega, by go_num, takes_next HX.out HY.out HS.out, rfl⟩
          case measure => simp [intOf]; omega
        · have hne : ((x.toNat : Int) == (y.toNat : Int)) = false := by
            rw [beq_eq_false_iff_ne]
            intro e
            exact hq (UInt8.toNat_inj.1 (by omega))
          have HQ := Lib.hid hq
          clear hq
          go_wp2
          go_quiet (fail)
          go_wp2
          go_ret
          exact ⟨ret_bool (decide_eq_false (takes_differ HX.out HY.out HQ.out)).symm, _, World.drewN_drewN _ _ _⟩
      · obtain rfl : k = xs.length := by omega
        have HS := Lib.hid hsame
        clear hsame hA hB hle
        go_wp2
        go_ret
        exact ⟨ret_bool (decide_eq_true (takes_all HLE.out HS.out)).symm, _, rfl⟩
  · have hli : ((xs.length : Int) == (ys.length : Int)) = false := by
      rw [beq_eq_false_iff_ne]; omega
    have HLE := Lib.hid hl
    clear hl
    go_enter Tryd.func11, Tryd.ntmps11
    go_wp2
    go_ret
    exact ⟨ret_bool (decide_eq_false (fun e => HLE.out (by rw [e]))).symm, 0, rfl⟩
end Go.Proofs.YtolaecdopfmbgaaDoor
