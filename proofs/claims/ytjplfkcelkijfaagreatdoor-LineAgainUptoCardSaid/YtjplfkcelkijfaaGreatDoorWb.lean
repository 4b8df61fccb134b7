/- The reference's Shape: a kind's word and its parts' letters. No condition. -/
import Derived.Test.YtjplfkcelkijfaaGreatDoorWa
namespace Go.Proofs.YtjplfkcelkijfaaGreatDoor
open Go.RowKit

/-- the letter of a part: i o n t d b -/
def letT (p : Nat) : UInt8 := [105, 111, 110, 116, 100, 98].getD p 98
def wordI (k : Int) : List UInt8 := if 1 ≤ k ∧ k ≤ 20 then wordT k.toNat else []
def partI (k : Int) : List Nat := if 1 ≤ k ∧ k ≤ 20 then partT k.toNat else []

/-- strings in a row -/
def rowS (L : List (List UInt8)) : Array Value := (L.map fun l => Value.string ⟨l.toArray⟩).toArray
theorem rowS_at {L : List (List UInt8)} {k : Nat} {l : List UInt8} (h : L[k]? = some l) : (rowS L)[k]? = some (.string ⟨l.toArray⟩) := by
  unfold rowS; simp [h]
theorem two_rows (w : World) (a b : Array Value) (t : TypeId) (k : Nat) : ((w.alloc (.cells a t)).alloc (.cells b t)).cell? ⟨w.heap.size, k, none⟩ = a[k]? ∧ ((w.alloc (.cells a t)).alloc (.cells b t)).cell? ⟨w.heap.size + 1, k, none⟩ = b[k]? := by
  have h1 : ((w.alloc (.cells a t)).alloc (.cells b t)).heap[w.heap.size]? = some (.cells a t (0, 0)) := by
    rw [Below.heap_alloc _ _ _ (by simp)]; exact World.alloc_heap_new _ _
  have h2 : ((w.alloc (.cells a t)).alloc (.cells b t)).heap[w.heap.size + 1]? = some (.cells b t (0, 0)) := by
    have := World.alloc_heap_new (w.alloc (.cells a t)) (.cells b t)
    rwa [World.size_alloc] at this
  exact ⟨Lib.cell_of_heap h1 k, Lib.cell_of_heap h2 k⟩
theorem wordsT_at (m : Nat) (h : m ≤ 20) : wordsT[m]? = some (wordT m) := by
  unfold wordT
  rw [List.getD_eq_getElem?_getD, List.getElem?_eq_getElem (show m < wordsT.length by show m < 21; omega)]; rfl
theorem partsT_at (m : Nat) (h : m ≤ 20) : (partsT.map fun l => l.map letT)[m]? = some ((partT m).map letT) := by
  unfold partT
  rw [List.getElem?_map, List.getD_eq_getElem?_getD, List.getElem?_eq_getElem (show m < partsT.length by show m < 21; omega)]; rfl

set_option maxHeartbeats 1000000 in
set_option maxRecDepth 100000 in
theorem shape_calls (k : Int) (w : World) (h0 : -9223372036854775808 ≤ k) (h1 : k ≤ 9223372036854775807) :
    Calls Tryz.prog 22 #[.int .i64 k] w fun e w' => e = .returned (.tuple #[.string ⟨(wordI k).toArray⟩, .string ⟨((partI k).map letT).toArray⟩]) ∧ Below w.heap.size w w' := by
  have hb : Below w.heap.size w ((w.alloc (.cells (rowS wordsT) 9)).alloc (.cells (rowS (partsT.map fun l => l.map letT)) 9)) := ((Below.refl _ w).alloc (Nat.le_refl _) _).alloc (by simp) _
  by_cases hk : 1 ≤ k ∧ k ≤ 20
  · have hw : wordI k = wordT k.toNat := if_pos hk
    have hp : partI k = partT k.toNat := if_pos hk
    rw [hw, hp]
    clear hw hp h0 h1
    obtain ⟨m, rfl⟩ := Int.eq_ofNat_of_zero_le (show 0 ≤ k by omega)
    rw [Int.toNat_natCast]
    have cW := (two_rows w (rowS wordsT) (rowS (partsT.map fun l => l.map letT)) 9 m).1
    have cP := (two_rows w (rowS wordsT) (rowS (partsT.map fun l => l.map letT)) 9 m).2
    rw [rowS_at (wordsT_at m (by omega))] at cW
    rw [rowS_at (partsT_at m (by omega))] at cP
    have hm1 : (1 : Int) ≤ m := hk.1
    have hm2 : (m : Int) ≤ 20 := hk.2
    have HB := Lib.hid hb
    clear hb hk
    go_enter Tryz.func22, Tryz.ntmps22
    go_upto_region 5 with (fail)
    change Code.wp _ _ _ _ ((w.alloc (.cells (rowS wordsT) 9)).alloc (.cells (rowS (partsT.map fun l => l.map letT)) 9))
    generalize (w.alloc (.cells (rowS wordsT) 9)).alloc (.cells (rowS (partsT.map fun l => l.map letT)) 9) = W at *
    generalize hx : wordT m = x at *
    generalize hy : (partT m).map letT = y at *
    go_quiet (fail)
    go_wp2_with fail
    go_ret2
    subst hx
    subst hy
    exact ⟨rfl, below_drewN HB.out nq⟩
  · have hw : wordI k = [] := if_neg hk
    have hp : partI k = [] := if_neg hk
    rw [hw, hp]
    have HB := Lib.hid hb
    clear hw hp hb
    by_cases h2 : k < 1
    · go_enter Tryz.func22, Tryz.ntmps22
      go_wp2_with fail
      go_ret2
      exact ⟨rfl, HB.out⟩
    · have h3 : 20 < k := by omega
      go_enter Tryz.func22, Tryz.ntmps22
      go_wp2_with fail
      go_ret2
      exact ⟨rfl, HB.out⟩
end Go.Proofs.YtjplfkcelkijfaaGreatDoor
