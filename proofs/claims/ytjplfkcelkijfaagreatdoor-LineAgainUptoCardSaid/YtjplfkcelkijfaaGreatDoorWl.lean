/- line.kind: the kind of a word. No condition. -/
import Derived.Test.YtjplfkcelkijfaaGreatDoorWk
namespace Go.Proofs.YtjplfkcelkijfaaGreatDoor
open Go.RowKit

theorem wordT_ne : ∀ k : Fin 21, wordT k.val ≠ [] ↔ k.val ≠ 0 := by decide +kernel
set_option maxHeartbeats 2000000 in
set_option maxRecDepth 100000 in
theorem kind_calls (s : ByteArray) (w : World) : Calls Tryz.prog 18 #[.string s] w fun e w' => e = .returned (.int .i64 (kindW s.data.toList)) ∧ Below w.heap.size w w' := by
  have HSH := Lib.hid shapes_calls
  go_enter Tryz.func18, Tryz.ntmps18
  go_wp2_with fail
  refine (HSH.out _).mono ?_
  rintro e w1 ⟨vs, rfl, hvs, hin, b1⟩
  go_wp2_with fail
  have HIN := Lib.hid hin
  have HVS := Lib.hid hvs
  have HB1 := Lib.hid b1
  have hs1 := b1.size
  have hSE := isEmpty_toList s
  clear hin hvs b1
  go_loopw [6] (fun c wr => ∃ k : Nat, c = .int .i64 k ∧ (k : Int) ≤ 21 ∧ Hid (∀ i, i < k → i ≠ 0 → wordT i ≠ s.data.toList) ∧ Below w1.heap.size w1 wr) (fun c _ => 21 - (intOf c).toNat)
  case atStart => exact ⟨0, rfl, by omega, fun i hi => by omega, Below.refl _ _⟩
  case round =>
    obtain ⟨k, rfl, hk, hno, hb⟩ := hrel
    have HB := Lib.hid hb
    have hsz := hb.size
    by_cases hlt : (k : Int) < 21
    · have hk20 : k ≤ 20 := by omega
      obtain ⟨v, hv⟩ : ∃ v, vs[k]? = some v := ⟨_, List.getElem?_eq_getElem (by rw [HVS.out]; omega)⟩
      obtain ⟨Av, cv, rfl, _⟩ := HIN.out k v hv
      rw [List.length_map] at hv
      have hix := index_shapes k hk20 vs _ hv
      have hq : ((⟨(wordT k).toArray⟩ : ByteArray).toList == s.toList) = decide (wordT k = s.data.toList) := by
        rw [ByteArray.toList_eq, ByteArray.toList_eq, Bool.eq_iff_iff, beq_iff_eq, decide_eq_true_eq]
      have HWK : Hid (wordT k ≠ [] ↔ k ≠ 0) := by
        have := wordT_ne ⟨k, by omega⟩
        exact this
      generalize hW : (⟨(wordT k).toArray⟩ : ByteArray) = W at *
      by_cases he : wordT k = s.data.toList
      · rw [decide_eq_true he] at hq
        by_cases hk0 : k = 0
        · have hse : s.toList.isEmpty = true := by
            rw [hSE, decide_eq_true_eq]
            have : wordT k = [] := Classical.byContradiction fun h => HWK.out.1 h hk0
            rw [he] at this
            have := congrArg List.length this
            simpa using this
          have HN : Hid (∀ i, i < k + 1 → i ≠ 0 → wordT i ≠ s.data.toList) := fun i hi h0 => by omega
          clear hSE he hv hb hno hk0
          go_wp2_with fail
          go_roundw
          case measure => simp [intOf]; omega
          case rel => exact ⟨k + 1, by go_num, by omega, HN, HB.out.alloc hsz _⟩
        · have hse : s.toList.isEmpty = false := by
            rw [hSE, decide_eq_false_iff_not]
            intro h
            have h2 : s.data.toList = [] := List.eq_nil_of_length_eq_zero (by simpa using h)
            exact HWK.out.2 hk0 (he.trans h2)
          have HKW : Hid (kindW s.data.toList = k) := by rw [← he]; exact kindW_word ⟨k, by omega⟩ hk0
          clear hSE he hv hb hno
          go_wp2_with fail
          go_ret
          exact ⟨by rw [HKW.out]; rfl, HB1.out.trans ((HB.out.alloc hsz _).mono hs1)⟩
      · rw [decide_eq_false he] at hq
        have HN : Hid (∀ i, i < k + 1 → i ≠ 0 → wordT i ≠ s.data.toList) := fun i hi h0 => by
          by_cases e : i = k
          · subst e; exact he
          · exact hno i (by omega) h0
        clear hSE he hv hb hno
        go_wp2_with fail
        go_roundw
        case measure => simp [intOf]; omega
        case rel => exact ⟨k + 1, by go_num, by omega, HN, HB.out.alloc hsz _⟩
    · have hk21 : k = 21 := by omega
      have HKW : Hid (kindW s.data.toList = 0) := Classical.byContradiction fun h => hno.out (kindW s.data.toList) (by have := kindW_le s.data.toList; omega) h (wordT_kindW h)
      clear hb hno
      go_wp2_with fail
      go_ret
      exact ⟨by rw [HKW.out]; rfl, HB1.out.trans (HB.out.mono hs1)⟩
end Go.Proofs.YtjplfkcelkijfaaGreatDoor
