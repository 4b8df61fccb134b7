/- The reference's Less: which name is ahead. Condition: names of at most 1048576 bytes. -/
import Derived.Test.YtolaecdopfmbgaaDoorRk
namespace Go.Proofs.YtolaecdopfmbgaaDoor
open Go.RowKit Go.Shelf

theorem strV_inj {a b : List UInt8} : strV a = strV b ↔ a = b := ⟨fun e => by rw [← strV_data a, e, strV_data], fun e => by rw [e]⟩
theorem strV_beq (a b : List UInt8) : ((strV a).toList == (strV b).toList) = decide (a = b) := by
  rw [Lib.toList_data, Lib.toList_data, strV_data, strV_data]
  rw [Bool.eq_iff_iff]; simp
/-- the loop of Less, over parts that are there -/
theorem less71_loop (A B : List (List UInt8)) (k : Nat) (h1 : k < A.length) (h2 : k < B.length) (e : A[k] = B[k]) : cmpC (A.drop k) (B.drop k) = cmpC (A.drop (k + 1)) (B.drop (k + 1)) := by
  rw [cmpC_at A B k h1 h2, if_neg (by rw [e, partC_is.refl]; simp)]
theorem less71_stop (A B : List (List UInt8)) (k : Nat) (h1 : k < A.length) (h2 : k < B.length) (e : A[k] ≠ B[k]) : cmpC (A.drop k) (B.drop k) = partC A[k] B[k] := by
  rw [cmpC_at A B k h1 h2, if_pos (fun h => e (partC_is.eq _ _ h))]
set_option maxHeartbeats 2000000 in
theorem refLess_calls (x y : List UInt8) (w : World) (hx : x.length ≤ 1048576) (hy : y.length ≤ 1048576) :
    Calls Tryd.prog 71 #[.string (strV x), .string (strV y)] w fun e w' => e = .returned (.bool (decide (verC x y < 0))) ∧ RowKit.Below w.heap.size w w' := by
  have P1 := fun W => refParts_calls (strV x) W (by rw [strV_size]; exact hx)
  have P2 := fun W => refParts_calls (strV y) W (by rw [strV_size]; exact hy)
  rw [strV_data] at P1 P2
  have hr : verC x y = cmpC (partsV x) (partsV y) := rfl
  have ga := parts_good x hx
  have gb := parts_good y hy
  have la : (partsV x).length ≤ 1048576 := Nat.le_trans (parts_len x) hx
  have lb : (partsV y).length ≤ 1048576 := Nat.le_trans (parts_len y) hy
  generalize verC x y = r at *
  generalize partsV x = A at *
  generalize partsV y = B at *
  have HP1 := Lib.hid P1
  have HP2 := Lib.hid P2
  have HR := Lib.hid hr
  have HGA := Lib.hid ga
  have HGB := Lib.hid gb
  clear P1 P2 hr ga gb hx hy
  go_enter Tryd.func71, Tryd.ntmps71
  go_wp2_with fail
  refine (HP1.out _).mono ?_
  rintro e w1 ⟨v1, rfl, o1, b1⟩
  have n1 := Lib.hid (NamIn.of_owns o1)
  have HB1 := Lib.hid b1
  clear o1 b1
  go_wp2_with fail
  refine (HP2.out _).mono ?_
  rintro e w2 ⟨v2, rfl, o2, b2⟩
  have hb : Below w.heap.size w w2 := HB1.out.trans (b2.mono HB1.out.size)
  have n1' := n1.out.below b2
  have n2 := NamIn.of_owns o2
  have HB := Lib.hid hb
  clear o2 b2 hb HB1 n1
  obtain ⟨a, ca, rfl, hca⟩ := n1'
  obtain ⟨b, cb, rfl, hcb⟩ := n2
  have HCA := Lib.hid hca
  have HCB := Lib.hid hcb
  clear hca hcb
  go_wp2_with fail
  go_loopw [7] (fun i wr => ∃ k m : Nat, i = .int .i64 k ∧ (k : Int) ≤ A.length ∧ (k : Int) ≤ B.length ∧ Hid (r = cmpC (A.drop k) (B.drop k)) ∧ wr = w2.drewN m) (fun i _ => A.length - (intOf i).toNat)
  case atStart => exact ⟨0, 0, rfl, by omega, by omega, HR.out, rfl⟩
  case round =>
    obtain ⟨k, m, rfl, hk1, hk2, hX, rfl⟩ := hrel
    by_cases h1 : (k : Int) < A.length
    · have h1' : k < A.length := by omega
      obtain ⟨g, off, rfl, c1⟩ := HCA.out k h1'
      have c1' : (w2.drewN m).cell? ⟨g, off + k, none⟩ = some (.string (strV A[k])) := c1
      by_cases h2 : (k : Int) < B.length
      · have h2' : k < B.length := by omega
        obtain ⟨g2, off2, rfl, c2⟩ := HCB.out k h2'
        have c2' : (w2.drewN m).cell? ⟨g2, off2 + k, none⟩ = some (.string (strV B[k])) := c2
        have HM : Hid (∀ q, (w2.drewN m).drewN q = w2.drewN (m + q)) := fun q => World.drewN_drewN _ _ _
        have hp := fun W => less_calls A[k] B[k] W (HGA.out _ (List.getElem_mem h1')).2 (HGB.out _ (List.getElem_mem h2')).2 (HGA.out _ (List.getElem_mem h1')).1 (HGB.out _ (List.getElem_mem h2')).1
        have hq := strV_beq A[k] B[k]
        have hl := less71_loop A B k h1' h2'
        have hs := less71_stop A B k h1' h2'
        clear c1 c2
        generalize w2.drewN m = w3 at *
        generalize hd : partC A[k] B[k] = c at *
        generalize strV A[k] = sa at *
        generalize strV B[k] = sb at *
        have HP := Lib.hid hp
        clear hp hd
        by_cases h3 : A[k] = B[k]
        · rw [decide_eq_true h3] at hq
          have HL := Lib.hid (hl h3)
          clear hl hs h3
          go_wp2_with fail
          go_quiet (fail)
          go_wp2_with fail
          go_roundw
          case rel => exact ⟨k + 1, m + nq, by go_num, by omega, by omega, by unfold Hid; rw [hX.out, HL.out], HM.out _⟩
          case measure => simp [intOf]; omega
        · rw [decide_eq_false h3] at hq
          have HL := Lib.hid (hs h3)
          clear hl hs h3
          go_wp2_with fail
          go_quiet (fail)
          have c4 : (w3.drewN nq).cell? ⟨g, off + k, none⟩ = some (.string sa) := c1'
          have c5 : (w3.drewN nq).cell? ⟨g2, off2 + k, none⟩ = some (.string sb) := c2'
          have HM2 : Hid (w3.drewN nq = w2.drewN (m + nq)) := HM.out _
          clear c1' c2' HM
          generalize w3.drewN nq = w4 at *
          go_wp2_with fail
          go_quiet ((go_at_call 101; refine Calls.quiet_of (HP.out _)))
          go_wp2_with fail
          go_ret
          exact ⟨retB (by rw [hX.out, HL.out]), by rw [HM2.out]; exact below_drewN (below_drewN HB.out _) _⟩
      · have h2' : ¬ (A.length : Int) < B.length := by omega
        have hd : decide (k < B.length) = false := by simp; omega
        have HL := Lib.hid (cmpC_right A B k h1' (by omega))
        go_wp2_with fail
        go_ret
        refine ⟨retB ?_, below_drewN HB.out _⟩
        rw [hX.out, HL.out]
        simp <;> omega
    · by_cases h2 : (k : Int) < B.length
      · have HL := Lib.hid (cmpC_left A B k (by omega) (by omega))
        have h3 : (A.length : Int) < B.length := by omega
        go_wp2_with fail
        go_ret
        refine ⟨retB ?_, below_drewN HB.out _⟩
        rw [hX.out, HL.out]
        simp <;> omega
      · have HL := Lib.hid (cmpC_none A B k (by omega) (by omega))
        have h3 : ¬ (A.length : Int) < B.length := by omega
        go_wp2_with fail
        go_ret
        refine ⟨retB ?_, below_drewN HB.out _⟩
        rw [hX.out, HL.out]
        simp <;> omega
end Go.Proofs.YtolaecdopfmbgaaDoor
