/- slices.CompareFunc at parts, and version.Cmp: which name is ahead; what was there is as it was, and what is drawn has not fallen. Condition: names of at most 1048576 bytes. -/
import Derived.Test.YtolaecdopfmbgaaDoorRf
namespace Go.Proofs.YtolaecdopfmbgaaDoor
open Go.RowKit Go.Shelf

/-- a value reads as a row of names -/
def NamIn (w : World) (v : Value) (l : List (List UInt8)) : Prop :=
  ∃ a cap, v = .slice a l.length cap ∧ ∀ k (h : k < l.length), ∃ g off, a = some ⟨g, off, none⟩ ∧ w.cell? ⟨g, off + k, none⟩ = some (.string (strV l[k]))
theorem NamIn.of_owns {w : World} {base : Nat} {v : Value} {l : List (List UInt8)} (h : w.ownsRow base 9 1 v l.length (namC l)) : NamIn w v l := by
  obtain ⟨h1, (⟨rfl, h2⟩ | ⟨g, cap, cur, rfl, h3, h4, h5, h6, h7, h8⟩)⟩ := h
  · have : l = [] := List.eq_nil_of_length_eq_zero h2
    subst this
    exact ⟨none, 0, rfl, fun k x => by simp at x⟩
  · refine ⟨_, _, rfl, fun k hk => ⟨g, 0, rfl, ?_⟩⟩
    rw [Nat.zero_add, cell_of_row _ _ _ _ _ _ h4]
    have e : (namC l)[k]? = some (.string (strV l[k])) := by simp [namC, hk]
    rw [← e, ← h8, List.getElem?_take, if_pos (by omega), Array.getElem?_toList]
theorem NamIn.drewN {w : World} {v : Value} {l : List (List UInt8)} (h : NamIn w v l) (n : Nat) : NamIn (w.drewN n) v l := h
theorem NamIn.below {w w' : World} {v : Value} {l : List (List UInt8)} (h : NamIn w v l) (hb : Below w.heap.size w w') : NamIn w' v l := by
  obtain ⟨a, cap, rfl, hc⟩ := h
  refine ⟨a, cap, rfl, fun k hk => ?_⟩
  obtain ⟨g, off, ha, h⟩ := hc k hk
  have hlt : g < w.heap.size := by
    unfold World.cell? at h
    rcases Nat.lt_or_ge g w.heap.size with h' | h'
    · exact h'
    · rw [show w.heap[g]? = none from Array.getElem?_eq_none h'] at h; simp at h
  exact ⟨g, off, ha, by rw [hb.cell (p := ⟨g, off + k, none⟩) hlt]; exact h⟩

theorem cmpC_at (A B : List (List UInt8)) (k : Nat) (h1 : k < A.length) (h2 : k < B.length) : cmpC (A.drop k) (B.drop k) = if partC A[k] B[k] ≠ 0 then partC A[k] B[k] else cmpC (A.drop (k + 1)) (B.drop (k + 1)) := by
  rw [List.drop_eq_getElem_cons h1, List.drop_eq_getElem_cons h2, cmpC]
theorem cmpC_right (A B : List (List UInt8)) (k : Nat) (h1 : k < A.length) (h2 : B.length ≤ k) : cmpC (A.drop k) (B.drop k) = 1 := by
  rw [List.drop_eq_getElem_cons h1, List.drop_eq_nil_of_le h2, cmpC]
theorem cmpC_left (A B : List (List UInt8)) (k : Nat) (h1 : A.length ≤ k) (h2 : k < B.length) : cmpC (A.drop k) (B.drop k) = -1 := by
  rw [List.drop_eq_nil_of_le h1, List.drop_eq_getElem_cons h2, cmpC]
theorem cmpC_none (A B : List (List UInt8)) (k : Nat) (h1 : A.length ≤ k) (h2 : B.length ≤ k) : cmpC (A.drop k) (B.drop k) = 0 := by
  rw [List.drop_eq_nil_of_le h1, List.drop_eq_nil_of_le h2, cmpC]

set_option maxHeartbeats 1000000 in
theorem compareFunc_calls (A B : List (List UInt8)) (va vb : Value) (w : World) (hA : NamIn w va A) (hB : NamIn w vb B) (la : A.length ≤ 1048576) (lb : B.length ≤ 1048576)
    (ga : ∀ p ∈ A, p ≠ [] ∧ p.length ≤ 1048576) (gb : ∀ p ∈ B, p ≠ [] ∧ p.length ≤ 1048576) :
    Calls Tryd.prog 96 #[va, vb, .func (.func 98) #[] #[]] w fun e w' => e = .returned (.int .i64 (cmpC A B)) ∧ ∃ n, w' = w.drewN n := by
  obtain ⟨a, ca, rfl, hca⟩ := hA
  obtain ⟨b, cb, rfl, hcb⟩ := hB
  have HCA := Lib.hid hca
  have HCB := Lib.hid hcb
  have HGA := Lib.hid ga
  have HGB := Lib.hid gb
  clear hca hcb ga gb
  go_enter Tryd.func96, Tryd.ntmps96
  go_wp2
  go_loopw [13] (fun i wr => ∃ k m : Nat, i = .int .i64 k ∧ (k : Int) ≤ A.length ∧ (k : Int) ≤ B.length ∧ Hid (cmpC A B = cmpC (A.drop k) (B.drop k)) ∧ wr = w.drewN m) (fun i _ => A.length - (intOf i).toNat)
  case atStart => exact ⟨0, 0, rfl, by omega, by omega, rfl, rfl⟩
  case round =>
    obtain ⟨k, m, rfl, hk1, hk2, hx, rfl⟩ := hrel
    by_cases h1 : (k : Int) < A.length
    · have h1' : k < A.length := by omega
      obtain ⟨g, off, rfl, c1⟩ := HCA.out k h1'
      have c1' : (w.drewN m).cell? ⟨g, off + k, none⟩ = some (.string (strV A[k])) := c1
      clear c1
      by_cases h2 : (k : Int) < B.length
      · have h2' : k < B.length := by omega
        obtain ⟨g2, off2, rfl, c2⟩ := HCB.out k h2'
        have c2' : (w.drewN m).cell? ⟨g2, off2 + k, none⟩ = some (.string (strV B[k])) := c2
        clear c2
        have hc := cmpC_at A B k h1' h2'
        have hp := fun W => part_calls A[k] B[k] W (by have := (HGA.out _ (List.getElem_mem h1')).2; omega) (by have := (HGB.out _ (List.getElem_mem h2')).2; omega) (HGA.out _ (List.getElem_mem h1')).1 (HGB.out _ (List.getElem_mem h2')).1
        generalize partC A[k] B[k] = c at *
        generalize strV A[k] = sa at *
        generalize strV B[k] = sb at *
        have HP := Lib.hid hp
        clear hp
        by_cases h3 : c = 0
        · rw [if_neg (by simp [h3])] at hc
          have q : (c != 0) = false := by simp [h3]
          have HC := Lib.hid hc
          clear hc h3
          go_wp2_with (go_at_call 98; refine (HP.out _).mono ?_; rintro e w2 ⟨rfl, nq, rfl⟩)
          go_roundw
          case rel => exact ⟨k + 1, m + nq, by go_num, by omega, by omega, by unfold Hid; rw [hx.out, HC.out], by simp⟩
          case measure => simp [intOf]; omega
        · rw [if_pos h3] at hc
          have q : (c != 0) = true := by simp [h3]
          have HC := Lib.hid hc
          clear hc h3
          go_wp2_with (go_at_call 98; refine (HP.out _).mono ?_; rintro e w2 ⟨rfl, nq, rfl⟩)
          go_ret
          exact ⟨retI (by rw [hx.out, HC.out]), m + nq, by simp⟩
      · have HC := Lib.hid (cmpC_right A B k h1' (by omega))
        go_wp2_with fail
        go_ret
        exact ⟨retI (by rw [hx.out, HC.out]), m, rfl⟩
    · by_cases h2 : (k : Int) < B.length
      · have HC := Lib.hid (cmpC_left A B k (by omega) (by omega))
        have h3 : (A.length : Int) < B.length := by omega
        go_wp2_with fail
        go_ret
        exact ⟨retI (by rw [hx.out, HC.out]), m, rfl⟩
      · have HC := Lib.hid (cmpC_none A B k (by omega) (by omega))
        have h3 : ¬ (A.length : Int) < B.length := by omega
        go_wp2_with fail
        go_ret
        exact ⟨retI (by rw [hx.out, HC.out]), m, rfl⟩
theorem parts_good (s : List UInt8) (h : s.length ≤ 1048576) : ∀ p ∈ partsV s, p ≠ [] ∧ p.length ≤ 1048576 := by
  intro p hp
  refine ⟨partsV_ne s p hp, ?_⟩
  have e := partsV_flatten s
  have : p.length ≤ (partsV s).flatten.length := (List.sublist_flatten_of_mem hp).length_le
  rw [e] at this
  omega

set_option maxHeartbeats 400000 in
theorem Cmp_calls (x y : List UInt8) (w : World) (hx : x.length ≤ 1048576) (hy : y.length ≤ 1048576) :
    Calls Tryd.prog 67 #[.string (strV x), .string (strV y)] w fun e w' => e = .returned (.int .i64 (verC x y)) ∧ Below w.heap.size w w' ∧ w.drawn ≤ w'.drawn := by
  have P1 := fun W => Parts_calls (strV x) W (by rw [strV_size]; exact hx)
  have P2 := fun W => Parts_calls (strV y) W (by rw [strV_size]; exact hy)
  rw [strV_data] at P1 P2
  have C := fun va vb W hA hB => compareFunc_calls (partsV x) (partsV y) va vb W hA hB (Nat.le_trans (parts_len x) hx) (Nat.le_trans (parts_len y) hy) (parts_good x hx) (parts_good y hy)
  have hr : verC x y = cmpC (partsV x) (partsV y) := rfl
  rw [← hr] at C
  have HP1 := Lib.hid P1
  have HP2 := Lib.hid P2
  have HC := Lib.hid C
  clear P1 P2 C hr
  generalize verC x y = r at *
  go_enter Tryd.func67, Tryd.ntmps67
  go_wp2_with fail
  refine (HP1.out _).mono ?_
  rintro e w1 ⟨v1, rfl, o1, b1, d1⟩
  have n1 := Lib.hid (NamIn.of_owns o1)
  clear o1
  go_wp2_with fail
  refine (HP2.out _).mono ?_
  rintro e w2 ⟨v2, rfl, o2, b2, d2⟩
  have n2 := Lib.hid (NamIn.of_owns o2)
  clear o2
  go_wp2_with fail
  refine (HC.out _ _ _ (n1.out.below b2) n2.out).mono ?_
  rintro e w3 ⟨rfl, nq, rfl⟩
  go_wp2_with fail
  go_ret
  exact ⟨rfl, b1.trans ((below_drewN b2 _).mono b1.size), by show w.drawn ≤ w2.drawn + nq; omega⟩
end Go.Proofs.YtolaecdopfmbgaaDoor
