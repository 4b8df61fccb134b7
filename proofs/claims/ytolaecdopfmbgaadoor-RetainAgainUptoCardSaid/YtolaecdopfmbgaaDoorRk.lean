/- The reference's Parts and Less. Condition: names of at most 1048576 bytes. -/
import Derived.Test.YtolaecdopfmbgaaDoorRj
namespace Go.Proofs.YtolaecdopfmbgaaDoor
open Go.RowKit Go.Shelf

theorem namC_snoc (l : List (List UInt8)) (x : List UInt8) : namC (l ++ [x]) = namC l ++ [.string (strV x)] := by simp [namC]
/-- how far the reference has come in a name: parts that are found, where the next begins -/
structure PartsAt (s : List UInt8) (pre : List (List UInt8)) (f k : Nat) : Prop where
  parts : partsV s = pre ++ partsV (s.drop f)
  one : 1 ≤ k
  top : k ≤ s.length + 1
  inn : k ≤ s.length → f < k ∧ ∀ j, f ≤ j → j < k → figB (s.getD j 0) = figB (s.getD f 0)
  fin : k = s.length + 1 → f = s.length
  len : pre.length ≤ f
theorem PartsAt.start (s : List UInt8) : PartsAt s [] 0 1 :=
  ⟨rfl, Nat.le_refl _, by omega, fun _ => ⟨by omega, fun j _ hj => by rw [show j = 0 by omega]⟩, fun h => by omega, Nat.le_refl _⟩
theorem PartsAt.cut {s : List UInt8} {pre : List (List UInt8)} {f k : Nat} (h : PartsAt s pre f k) (hk : k ≤ s.length) (hc : k = s.length ∨ figB (s.getD k 0) ≠ figB (s.getD (k - 1) 0)) :
    PartsAt s (pre ++ [(s.drop f).take (k - f)]) k (k + 1) := by
  obtain ⟨h1, h2⟩ := h.inn hk
  have hg : ∀ i, (s.drop f).getD i 0 = s.getD (f + i) 0 := fun i => by simp [List.getD_eq_getElem?_getD]
  have hr := run_atL (s.drop f) (k - f) (by omega) (by simp; omega) (fun i hi => by
      rw [hg, hg]; exact h2 (f + i) (by omega) (by omega)) (by
      rcases hc with hc | hc
      · left; simp; omega
      · right
        rw [hg, hg, show f + (k - f) = k by omega, Nat.add_zero]
        have := h2 (k - 1) (by omega) (by omega)
        rw [← this]; exact hc)
  have hl := h.len
  refine ⟨?_, by omega, by omega, fun hk2 => ⟨by omega, fun j hj1 hj2 => by rw [show j = k by omega]⟩, fun e => by omega, ?_⟩
  · rw [h.parts, hr, List.drop_drop, show f + (k - f) = k by omega, List.append_assoc]; rfl
  · rw [List.length_append]; simp; omega
theorem PartsAt.on {s : List UInt8} {pre : List (List UInt8)} {f k : Nat} (h : PartsAt s pre f k) (hk : k < s.length) (hc : figB (s.getD k 0) = figB (s.getD (k - 1) 0)) : PartsAt s pre f (k + 1) := by
  obtain ⟨h1, h2⟩ := h.inn (by omega)
  refine ⟨h.parts, by omega, by omega, fun _ => ⟨by omega, fun j hj1 hj2 => ?_⟩, fun e => by omega, h.len⟩
  rcases Nat.lt_or_ge j k with hj | hj
  · exact h2 j hj1 hj
  · rw [show j = k by omega, hc]
    exact h2 (k - 1) (by omega) (by omega)

set_option maxHeartbeats 2000000 in
theorem refParts_calls (s : ByteArray) (w : World) (hs : s.size ≤ 1048576) :
    Calls Tryd.prog 100 #[.string s] w fun e w' => ∃ v, e = .returned v ∧ w'.ownsRow w.heap.size 9 1 v (partsV s.data.toList).length (namC (partsV s.data.toList)) ∧ RowKit.Below w.heap.size w w' := by
  obtain ⟨i0, hi, hz0, hz1, hz2⟩ := info_parts infoStr
  have hlen : s.data.toList.length = s.size := by simp
  have HLEN := Lib.hid hlen
  clear hlen
  go_enter Tryd.func100, Tryd.ntmps100
  go_wp2_with fail
  go_loopw [3, 4, 5] (fun v fr i wr => ∃ (pre : List (List UInt8)) (f k : Nat), fr = .int .i64 f ∧ i = .int .i64 k ∧ Hid (PartsAt s.data.toList pre f k) ∧ 1 ≤ (k : Int) ∧ (k : Int) ≤ s.size + 1 ∧ (f : Int) ≤ s.size ∧ wr.ownsRow w.heap.size 9 1 v pre.length (namC pre) ∧ Below w.heap.size w wr) (fun _ _ i _ => s.size + 1 - (intOf i).toNat)
  case atStart => exact ⟨[], 0, 1, rfl, rfl, PartsAt.start _, by omega, by omega, by omega, World.ownsRow_nil _ _ _ _, Below.refl _ _⟩
  case round =>
    obtain ⟨pre, f, k, rfl, rfl, hP, hk1, hk2, hf, hown, hb⟩ := hrel
    have HO := Lib.hid hown
    have HB := Lib.hid hb
    have hsz := hb.size
    clear hown hb
    by_cases hle : (k : Int) ≤ s.size
    · have hkl : k ≤ s.data.toList.length := by rw [HLEN.out]; omega
      have hin := (hP.out.inn hkl).1
      have hpl := hP.out.len
      have hlast : (1 : Int) ≤ k := hk1
      have hk0 : 1 ≤ k := by omega
      by_cases heq : (k : Int) = s.size
      · have q : ((k : Int) == s.size) = true := by simp [heq]
        have hcut := Lib.hid (hP.out.cut hkl (.inl (by rw [HLEN.out]; omega)))
        have hex : (s.extract f k).data.toList = (s.data.toList.drop f).take (k - f) := Lib.extract_data _ _ _
        have HEX := Lib.hid hex
        clear hex heq
        have hfk : (f : Int) ≤ k := by omega
        go_wp2_with fail
        go_quiet (fail)
        have hown2 : (wr.drewN nq).ownsRow w.heap.size 9 1 u3 pre.length (namC pre) := HO.out
        have hb2 : Below w.heap.size w (wr.drewN nq) := below_drewN HB.out _
        have hsz2 : w.heap.size ≤ (wr.drewN nq).heap.size := hsz
        generalize wr.drewN nq = wc at *
        go_wp2_with (at_builtin; refine wpList_append_own _ rfl _ _ 46 rfl w.heap.size 9 i0 (.string ByteArray.empty) 1 16 Tryd.underlying46 hi hz0 hz1 hz2 rfl (by decide) _ _ _ rfl (hown2.alloc _) ⟨wc.heap.size, 0, none⟩ 1 1 [.string (s.extract f k)] rfl rfl (cell_one_new _ _ _) (by simp [Value.oneCell']) (by unfold maxLen; omega) (by omega) (by simp; omega) ?_; intro v' w1 hown' hgrow _; obtain ⟨g', cap', rfl⟩ := ownsRow_succ hown')
        go_roundw
        case rel =>
          refine ⟨pre ++ [(s.data.toList.drop f).take (k - f)], k, k + 1, by go_num, by go_num, hcut.out, by omega, by omega, by omega, ?_, (hb2.alloc hsz2 _).grown hgrow (by simp; omega) (fun r e => (hown2.lt r e).1)⟩
          rw [List.length_append, namC_snoc, ← HEX.out, strV_of]
          exact hown'
        case measure => simp [intOf]; omega
      · have heq' : ((k : Int) == s.size) = false := by rw [beq_eq_false_iff_ne]; exact heq
        have hlt : (k : Int) < s.size := by omega
        have hlt' : k < s.size := by omega
        have hlt2 : k - 1 < s.size := by omega
        have gk := getD_byte s k hlt'
        have gk1 := getD_byte s (k - 1) hlt2
        have hm0 : (0 : Int) ≤ k - 1 := by omega
        have hm1 : (k : Int) - 1 < s.size := by omega
        have hfk : (f : Int) ≤ k := by omega
        by_cases hfig : figB s[k] = figB s[k - 1]
        · have hon := Lib.hid (hP.out.on (by rw [HLEN.out]; omega) (by rw [gk, gk1]; exact hfig))
          have q : (figB s[k] == figB s[k - 1]) = true := by rw [hfig]; simp
          clear hfig gk gk1 heq
          go_wp2_with fail
          go_quiet ((go_at_call 130; exact Calls.quiet_of_same (figure2_calls _ _)))
          go_wp2_with fail
          go_roundw
          case rel => exact ⟨pre, f, k + 1, rfl, by go_num, hon.out, by omega, by omega, by omega, HO.out, below_drewN HB.out _⟩
          case measure => simp [intOf]; omega
        · have hcut := Lib.hid (hP.out.cut hkl (.inr (by rw [gk, gk1]; exact hfig)))
          have q : (figB s[k] == figB s[k - 1]) = false := by rw [beq_eq_false_iff_ne]; exact hfig
          have hex : (s.extract f k).data.toList = (s.data.toList.drop f).take (k - f) := Lib.extract_data _ _ _
          have HEX := Lib.hid hex
          clear hex hfig gk gk1 heq
          go_wp2_with fail
          go_quiet ((go_at_call 130; exact Calls.quiet_of_same (figure2_calls _ _)))
          have hown2 : (wr.drewN nq).ownsRow w.heap.size 9 1 u3 pre.length (namC pre) := HO.out
          have hb2 : Below w.heap.size w (wr.drewN nq) := below_drewN HB.out _
          have hsz2 : w.heap.size ≤ (wr.drewN nq).heap.size := hsz
          generalize wr.drewN nq = wc at *
          go_wp2_with (at_builtin; refine wpList_append_own _ rfl _ _ 46 rfl w.heap.size 9 i0 (.string ByteArray.empty) 1 16 Tryd.underlying46 hi hz0 hz1 hz2 rfl (by decide) _ _ _ rfl (hown2.alloc _) ⟨wc.heap.size, 0, none⟩ 1 1 [.string (s.extract f k)] rfl rfl (cell_one_new _ _ _) (by simp [Value.oneCell']) (by unfold maxLen; omega) (by omega) (by simp; omega) ?_; intro v' w1 hown' hgrow _; obtain ⟨g', cap', rfl⟩ := ownsRow_succ hown')
          go_roundw
          case rel =>
            refine ⟨pre ++ [(s.data.toList.drop f).take (k - f)], k, k + 1, by go_num, by go_num, hcut.out, by omega, by omega, by omega, ?_, (hb2.alloc hsz2 _).grown hgrow (by simp; omega) (fun r e => (hown2.lt r e).1)⟩
            rw [List.length_append, namC_snoc, ← HEX.out, strV_of]
            exact hown'
          case measure => simp [intOf]; omega
    · have hfs := hP.out.fin (by rw [HLEN.out]; have := hP.out.top; rw [HLEN.out] at this; omega)
      have hfin : partsV s.data.toList = pre := by
        rw [hP.out.parts, hfs, List.drop_eq_nil_of_le (Nat.le_refl _), partsV_nil, List.append_nil]
      have HF := Lib.hid hfin
      clear hfin hfs
      go_wp2_with fail
      go_ret
      exact ⟨_, rfl, by rw [HF.out]; exact HO.out, HB.out⟩
end Go.Proofs.YtolaecdopfmbgaaDoor
