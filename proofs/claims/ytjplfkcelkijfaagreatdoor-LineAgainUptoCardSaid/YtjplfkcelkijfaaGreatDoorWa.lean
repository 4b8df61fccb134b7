/- The reference's Num: an int's figures. No condition. -/
import Derived.Test.YtjplfkcelkijfaaGreatDoorLnB
namespace Go.Proofs.YtjplfkcelkijfaaGreatDoor
open Go.RowKit

theorem one_text (w : World) (x : UInt8) : (convert 24 9 (.slice (some ⟨w.heap.size, 0, none⟩) 1 1)).run Tryz.prog (w.alloc (.cells #[.int .u8 x.toNat] 5)) = .ok (.string ⟨[x].toArray⟩) (w.alloc (.cells #[.int .u8 x.toNat] 5)) :=
  run_text _ _ _ [x] (cellsIn_of_range (rangeAt_new w [.int .u8 x.toNat] 5))
/-- the figures of a number, none for 0 -/
def decP (u : Nat) : List UInt8 := if u = 0 then [] else Lib.decDigits u
theorem decP_step {u : Nat} (h : u ≠ 0) : decP u = decP (u / 10) ++ [UInt8.ofNat (48 + u % 10)] := by
  unfold decP
  rw [if_neg h]
  by_cases h1 : u < 10
  · rw [decD_lo h1, if_pos (by omega), List.nil_append, Nat.mod_eq_of_lt h1]
  · rw [decD_hi h1, if_neg (by omega)]
theorem decP_len (u : Nat) (h : u < 100000000000000000000) : (decP u).length ≤ 20 := by
  have aux : ∀ (k u : Nat), u < 10 ^ k → (decP u).length ≤ k := by
    intro k
    induction k with
    | zero => intro u hu; have : u = 0 := by omega
              subst this; simp [decP]
    | succ k ih =>
      intro u hu
      by_cases h0 : u = 0
      · subst h0; simp [decP]
      · rw [decP_step h0, List.length_append]
        have := ih (u / 10) (by rw [Nat.pow_succ] at hu; omega)
        simp; omega
  exact aux 20 u (by omega)
theorem w64 {x : Int} (h0 : -9223372036854775808 ≤ x) (h1 : x ≤ 9223372036854775807) : wrap64 x = x := by unfold wrap64; omega
theorem dig256 {d : Nat} (h : d < 10) : ((48 + d : Nat) : Int) = (48 + (d : Int)) % 256 := by omega

set_option maxHeartbeats 1000000 in
set_option maxRecDepth 100000 in
theorem num_calls (n : Int) (w : World) (h0 : -9223372036854775808 ≤ n) (h1 : n ≤ 9223372036854775807) :
    Calls Tryz.prog 32 #[.int .i64 n] w fun e w' => e = .returned (.string ⟨(Lib.itoa n).toArray⟩) ∧ Below w.heap.size w w' := by
  by_cases hz : n = 0
  · subst hz
    go_enter Tryz.func32, Tryz.ntmps32
    go_wp2_with fail
    go_ret
    exact ⟨by rw [show Lib.itoa 0 = [48] by decide +kernel]; rfl, Below.refl _ _⟩
  · have hzb : (n == 0) = false := by simpa using hz
    have hlen := decP_len n.natAbs (by omega)
    go_enter Tryz.func32, Tryz.ntmps32
    go_wp2_with fail
    go_loopw [3, 4] (fun s m wr => ∃ (u : Int) (S : List UInt8), m = .int .i64 u ∧ s = .string ⟨S.toArray⟩ ∧ -9223372036854775808 ≤ u ∧ u ≤ 9223372036854775807 ∧ S.length ≤ 20 ∧ Hid (decP n.natAbs = decP u.natAbs ++ S) ∧ Below w.heap.size w wr) (fun _ m _ => (intOf m).natAbs)
    case atStart => exact ⟨n, [], rfl, rfl, h0, h1, by simp, by simp [Hid], Below.refl _ _⟩
    case round =>
      obtain ⟨u, S, rfl, rfl, hu0, hu1, hSl, hS, hb⟩ := hrel
      have hsz := hb.size
      by_cases hu : u = 0
      · subst hu
        have hS2 : decP n.natAbs = S := by rw [hS.out]; simp [decP]
        have hi : Lib.itoa n = if n < 0 then 45 :: S else S := by
          unfold Lib.itoa
          by_cases hn : n < 0
          · rw [if_pos hn, if_pos hn, ← hS2, decP, if_neg (by omega)]
          · rw [if_neg hn, if_neg hn, ← hS2, decP, if_neg (by omega), show n.toNat = n.natAbs by omega]
        have HI := Lib.hid hi
        clear hi hS hS2
        by_cases hn : n < 0
        · have hlen1 : ¬ 9223372036854775807 < 1 + S.length := by omega
          go_wp2_with fail
          go_ret
          refine ⟨?_, hb⟩
          rw [HI.out, if_pos hn]
          show Ending.returned (.string (({ data := [45].toArray } : ByteArray) ++ { data := S.toArray })) = _
          rw [lits]; rfl
        · go_wp2_with fail
          go_ret
          refine ⟨?_, hb⟩
          rw [HI.out, if_neg (by omega)]; rfl
      · have hd : u.natAbs % 10 < 10 := by omega
        have hst := decP_step (u := u.natAbs) (by omega)
        have hdiv : (u.tdiv 10).natAbs = u.natAbs / 10 := Int.natAbs_tdiv u 10
        have hmod : (u.tmod 10).natAbs = u.natAbs % 10 := Int.natAbs_tmod u 10
        have hsl2 : ([UInt8.ofNat (48 + u.natAbs % 10)] ++ S).length ≤ 20 := by
          have h3 := congrArg List.length hS.out
          rw [hst, List.length_append, List.length_append] at h3
          simp only [List.length_append, List.length_cons, List.length_nil] at h3 ⊢
          omega
        have HST : Hid (decP n.natAbs = decP (u.tdiv 10).natAbs ++ ([UInt8.ofNat (48 + u.natAbs % 10)] ++ S)) := by
          unfold Hid
          rw [hS.out, hst, hdiv, List.append_assoc]
        have HSL2 := Lib.hid hsl2
        have hq : (u.tdiv 10).natAbs < u.natAbs := by omega
        have hb2 : -9223372036854775808 ≤ u.tdiv 10 ∧ u.tdiv 10 ≤ 9223372036854775807 := by omega
        obtain ⟨hb20, hb21⟩ := hb2
        generalize hdd : u.natAbs % 10 = d at *
        have ho := one_text wr (UInt8.ofNat (48 + d))
        rw [ofNat_dig hd, show ((48 + d : Nat) : Int) = 48 + (d : Int) by omega] at ho
        have HO := Lib.hid ho
        clear ho hS hst hsl2 hdiv
        generalize UInt8.ofNat (48 + d) = c at *
        have hd3 : (d : Int) < 10 := by omega
        by_cases hr : u.tmod 10 < 0
        · have hrd : u.tmod 10 = -(d : Int) := by omega
          have hlen1 : ¬ 9223372036854775807 < 1 + S.length := by omega
          have hd1 : (1 : Int) ≤ d := by omega
          clear hmod hdd hr
          go_wp2_with (rw [HO.out])
          go_roundw
          case measure => simpa [intOf] using hq
          case rel =>
            refine ⟨u.tdiv 10, [c] ++ S, by go_num, ?_, hb20, hb21, HSL2.out, HST, hb.alloc hsz _⟩
            show Value.string (({ data := [c].toArray } : ByteArray) ++ { data := S.toArray }) = _
            rw [lits]
        · have hrd : u.tmod 10 = (d : Int) := by omega
          have hlen1 : ¬ 9223372036854775807 < 1 + S.length := by omega
          clear hmod hdd hr
          go_wp2_with (rw [HO.out])
          go_roundw
          case measure => simpa [intOf] using hq
          case rel =>
            refine ⟨u.tdiv 10, [c] ++ S, by go_num, ?_, hb20, hb21, HSL2.out, HST, hb.alloc hsz _⟩
            show Value.string (({ data := [c].toArray } : ByteArray) ++ { data := S.toArray }) = _
            rw [lits]
end Go.Proofs.YtjplfkcelkijfaaGreatDoor
