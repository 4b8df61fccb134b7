/- The reference's reading of bytes. Condition: texts of at most 140737488351232 bytes. -/
import Derived.Test.YtjplfkcelkijfaaGreatDoorHxR
namespace Go.Proofs.YtjplfkcelkijfaaGreatDoor
open Go.RowKit
theorem ownsRow_drewN {w : World} {base : Nat} {e : TypeId} {z n : Nat} {v : Value} {cs : List Value} (h : w.ownsRow base e z v n cs) (k : Nat) : (w.drewN k).ownsRow base e z v n cs := ownsRow_same h (fun _ _ => rfl)
theorem hexP_two {l : List UInt8} {j : Nat} {c d : UInt8} (hc : l[j]? = some c) (hd : l[j + 1]? = some d) (h : j % 2 = 0) : hexP (l.take (j + 2)) = hexP (l.take j) ++ [UInt8.ofNat (16 * figU c + figU d)] := by
  have h1 := (List.getElem?_eq_some_iff.1 hd).1
  rw [hexP_odd h1 (by omega), hexP_even (by omega) h, Nat.add_sub_cancel]
  rw [show l.getD j 0 = c by rw [List.getD_eq_getElem?_getD, hc]; rfl, show l.getD (j + 1) 0 = d by rw [List.getD_eq_getElem?_getD, hd]; rfl]
set_option maxHeartbeats 1000000 in
set_option maxRecDepth 100000 in
theorem refHexRead_calls (s : ByteArray) (w : World) (hs : s.size ≤ 140737488351232) :
    Calls Tryz.prog 50 #[.string s] w (HexPost s.data.toList w) := by
  obtain ⟨i0, hi, hz0, hz1, hz2⟩ := info_parts infoByte
  have hs' : (s.size : Int) ≤ 140737488351232 := by omega
  have hsz0 : s.data.toList.length = s.size := by simp
  have HSZ := Lib.hid hsz0
  clear hs hsz0
  rcases Nat.mod_two_eq_zero_or_one s.size with hp | hp
  · have hpi : (((s.size : Int) % 2) == 1) = false := by rw [beq_eq_false_iff_ne]; omega
    have HP := Lib.hid hp
    clear hp
    go_enter Tryz.func50, Tryz.ntmps50
    go_wp2
    go_loopw [4, 5] (fun v c wr => ∃ j : Nat, (j : Int) ≤ s.size ∧ j % 2 = 0 ∧ c = .int .i64 j ∧ wr.ownsRow w.heap.size 5 1 v (j / 2) (Lib.byteCells (hexP (s.data.toList.take j))) ∧
      (s.data.toList.take j).all (fun c => decide (figU c < 16)) = true ∧ Below w.heap.size w wr) (fun _ c _ => s.size - (intOf c).toNat)
    case atStart => exact ⟨0, by omega, rfl, rfl, by rw [List.take_zero]; exact World.ownsRow_nil _ _ _ _, rfl, Below.refl _ _⟩
    case round =>
      obtain ⟨j, hj, hj2, rfl, hrow, hall, hb⟩ := hrel
      have hsz := hb.size
      by_cases hlt : (j : Int) + 1 < s.size
      · have hn1 : j < s.size := by omega
        have hn2 : j + 1 < s.size := by omega
        obtain ⟨c, hc⟩ : ∃ c, s.data.toList[j]? = some c := ⟨_, List.getElem?_eq_getElem (by rw [HSZ.out]; omega)⟩
        obtain ⟨d, hd⟩ : ∃ d, s.data.toList[j + 1]? = some d := ⟨_, List.getElem?_eq_getElem (by rw [HSZ.out]; omega)⟩
        have W1 := Lib.hid (worth_calls c)
        have W2 := Lib.hid (worth_calls d)
        have hsc : s[j]'hn1 = c := by have h1 := (List.getElem?_eq_some_iff.1 hc).2; rw [← h1]; simp; rfl
        have hsd : s[j + 1]'hn2 = d := by have h1 := (List.getElem?_eq_some_iff.1 hd).2; rw [← h1]; simp; rfl
        have HJ2 := Lib.hid hj2
        have HALL := Lib.hid hall
        have HC := Lib.hid hc
        have HD := Lib.hid hd
        clear hj2 hall hc hd
        go_wp2
        go_quiet ((go_at_call 70; first | (with_reducible exact Calls.quiet_of_same (W1.out _)) | (with_reducible exact Calls.quiet_of_same (W2.out _))))
        by_cases f1 : (figU c : Int) > 15
        · have HB := Lib.hid (hexOk_bad HC.out (show ¬ figU c < 16 by omega))
          clear hrow hsc hsd
          go_wp2
          go_ret2
          exact HexPost.bad HB.out (below_drewN hb _)
        · by_cases f2 : (figU d : Int) > 15
          · have HB := Lib.hid (hexOk_bad HD.out (show ¬ figU d < 16 by omega))
            clear hrow hsc hsd
            go_wp2
            go_ret2
            exact HexPost.bad HB.out (below_drewN hb _)
          · clear hsc hsd
            have hj3 : j / 2 + 1 ≤ 140737488351232 := by omega
            go_wp2_with (at_builtin; refine wpList_append_own _ rfl _ _ 24 rfl w.heap.size 5 i0 (.int .u8 0) 1 1 Tryz.underlying24 hi hz0 hz1 hz2 rfl (by decide) _ _ _ rfl ((ownsRow_drewN hrow nq).alloc _) ⟨wr.heap.size, 0, none⟩ 1 1 [.int .u8 (↑(figU c) * 16 + ↑(figU d))] rfl rfl (cell_one_new _ _ _) (by simp [Value.oneCell']) (by unfold maxLen; omega) (by omega) (by simp; omega) ?_; intro v' w3 hown' hgrow _; obtain ⟨g', cap', rfl⟩ := ownsRow_succ hown')
            have hb3 : Below w.heap.size w w3 := ((below_drewN hb nq).alloc hsz _).grown hgrow (by simp; omega) (fun r e => (hrow.lt r e).1)
            have HB3 := Lib.hid hb3
            clear hb3
            go_roundw
            case rel =>
              refine ⟨j + 2, by omega, by have := HJ2.out; omega, by go_num, ?_, ?_, HB3.out⟩
              · have e := hexP_two HC.out HD.out HJ2.out
                rw [e, show (j + 2) / 2 = j / 2 + 1 by omega, Lib.byteCells, List.map_append, List.map_cons, List.map_nil, show (((UInt8.ofNat (16 * figU c + figU d)).toNat : Nat) : Int) = (figU c : Int) * 16 + figU d by simp; omega]
                exact hown'
              · rw [List.take_add_one, HD.out, List.all_append, List.take_add_one, HC.out, List.all_append, HALL.out]
                simp; omega
            case measure => simp [intOf]; omega
      · have hjn : j = s.size := by have := HP.out; omega
        subst hjn
        have htl : s.data.toList.take s.size = s.data.toList := by rw [← HSZ.out, List.take_length]
        rw [htl] at hall hrow
        have hok : hexOk s.data.toList = true := by
          unfold hexOk
          rw [hall, HSZ.out, HP.out]; rfl
        have hlw := hrow.lt
        obtain ⟨hn, a, cap', rfl, hC⟩ := cellsIn_of_owns hrow
        have HLW : Hid (∀ ad, a = some ad → w.heap.size ≤ ad.block) := fun ad e => by subst e; exact (hlw _ rfl).1
        clear hlw
        rw [Lib.byteCells_length] at hn
        have HOK := Lib.hid hok
        have HN := Lib.hid hn
        have HCC := Lib.hid hC
        clear hok hn hC hrow hall htl hj2
        go_wp2
        go_ret2
        refine ⟨a, cap', ?_, ?_, hb, HLW.out⟩
        · rw [HOK.out, if_pos rfl, if_pos rfl, ← HN.out]; rfl
        · rw [HOK.out, if_pos rfl]; exact HCC.out
  · have hpi : (((s.size : Int) % 2) == 1) = true := by rw [beq_iff_eq]; omega
    have HOK := Lib.hid (show hexOk s.data.toList = false by unfold hexOk; rw [HSZ.out, hp]; simp)
    clear hp
    go_enter Tryz.func50, Tryz.ntmps50
    go_wp2
    go_ret2
    exact HexPost.bad HOK.out (Below.refl _ _)
end Go.Proofs.YtjplfkcelkijfaaGreatDoor
