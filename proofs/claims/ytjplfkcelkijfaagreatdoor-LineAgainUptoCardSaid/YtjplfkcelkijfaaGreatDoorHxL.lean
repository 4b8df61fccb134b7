/- hex.figure. No condition. -/
import Derived.Laws.RangeString
import Derived.Laws.RangeAny
import Derived.Test.YtjplfkcelkijfaaGreatDoorHxI
namespace Go.Proofs.YtjplfkcelkijfaaGreatDoor
open Go.RowKit
/-- what a figure is worth; 16: it is none -/
def figN (c : Int) : Nat := if 48 ≤ c ∧ c ≤ 57 then (c - 48).toNat else if 97 ≤ c ∧ c ≤ 102 then (c - 87).toNat else 16
theorem figN_le (c : Int) : figN c ≤ 16 := by unfold figN; repeat' split
                                              all_goals omega
theorem hexD_val (n : Nat) (h : n < 16) : ((hexD n).toNat : Int) = if n < 10 then 48 + n else 87 + n := by
  split
  · rename_i h1; rw [hexD_lo h1]
  · rename_i h1; rw [hexD_hi h1 h]
theorem figN_hex (n : Nat) (h : n < 16) : figN ((hexD n).toNat : Int) = n := by
  rw [hexD_val n h]
  unfold figN
  repeat' split
  all_goals omega
theorem hex_figN (c : Int) (h : figN c < 16) : ((hexD (figN c)).toNat : Int) = c := by
  rw [hexD_val _ h]
  by_cases h1 : 48 ≤ c ∧ c ≤ 57
  · have e : figN c = (c - 48).toNat := by unfold figN; rw [if_pos h1]
    rw [e]; split <;> omega
  · by_cases h2 : 97 ≤ c ∧ c ≤ 102
    · have e : figN c = (c - 87).toNat := by unfold figN; rw [if_neg h1, if_pos h2]
      rw [e]; split <;> omega
    · have e : figN c = 16 := by unfold figN; rw [if_neg h1, if_neg h2]
      omega
def figI (c : Int) : Int := if figN c < 16 then figN c else 0
def figOk (c : Int) : Bool := decide (figN c < 16)
def figS : ByteArray := { data := #[48, 49, 50, 51, 52, 53, 54, 55, 56, 57, 97, 98, 99, 100, 101, 102] }
theorem figS_size : figS.size = 16 := rfl
theorem figS_at (n : Nat) (h : n < figS.size) : figS[n]'h = hexD n := figs_at ⟨n, h⟩
theorem figS_next (w : World) (n : Nat) (ty : TypeId) (h : n < 16) :
    (Instr.next (.pointer (some ⟨w.heap.size, 0, none⟩)) true ty).run Tryz.prog (w.iter figS n) = .ok (.tuple #[.bool true, .int .i64 n, .int .i32 (hexD n).toNat]) (w.iter figS (n + 1)) := by
  have hx := figS_at n h
  have := run_next_ascii (P := Tryz.prog) w figS n ty h (by rw [hx]; have := hexD_val n h; split at this <;> omega)
  rw [this, hx]
theorem figS_end (w : World) (ty : TypeId) : (Instr.next (.pointer (some ⟨w.heap.size, 0, none⟩)) true ty).run Tryz.prog (w.iter figS 16) = .ok (.tuple #[.bool false]) (w.iter figS 16) :=
  run_next_end w figS 16 ty (by decide)
set_option maxHeartbeats 1000000 in
set_option maxRecDepth 100000 in
theorem fig_calls (c : Int) (w : World) :
    Calls Tryz.prog 90 #[.int .i32 c] w fun e w' => e = .returned (.tuple #[.int .u8 (figI c), .bool (figOk c)]) ∧ Below w.heap.size w w' := by
  go_enter Tryz.func90, Tryz.ntmps90
  go_wp2
  go_loopw [4] (fun _ wr => ∃ k : Nat, k ≤ 16 ∧ wr = w.iter figS k ∧ (figN c < 16 → k ≤ figN c)) (fun _ wr => 16 - wr.iterPos w.heap.size)
  case atStart => exact ⟨0, by omega, rfl, by omega⟩
  case round =>
    obtain ⟨k, hk, rfl, hno⟩ := hrel
    by_cases hlt : k < 16
    · have hnx := fun ty => figS_next w k ty hlt
      have hki : (k : Int) < 16 := by omega
      by_cases hq : ((hexD k).toNat : Int) = c
      · have hfk : figN c = k := by rw [← hq, figN_hex k hlt]
        have heq : (((hexD k).toNat : Int) == c) = true := beq_iff_eq.2 hq
        have HF := Lib.hid hfk
        clear hfk hq hk hlt hno
        go_wp2
        go_ret2
        have hf := HF.out
        refine ⟨?_, (Below.refl _ _).alloc (Nat.le_refl _) _⟩
        have e1 : figI c = k := by unfold figI; rw [hf, if_pos (by omega)]
        have e2 : figOk c = true := by unfold figOk; rw [hf]; simp; omega
        rw [e1, e2]
        rfl
      · have heq : (((hexD k).toNat : Int) == c) = false := by rw [beq_eq_false_iff_ne]; exact hq
        have HNO := Lib.hid hno
        have HQ := Lib.hid hq
        have HK := Lib.hid hlt
        clear hq hno hk hlt
        go_wp2
        go_roundw
        case rel =>
          refine ⟨k + 1, HK.out, rfl, fun h => ?_⟩
          have h1 := HNO.out h
          rcases Nat.lt_or_ge k (figN c) with h2 | h2
          · exact h2
          · obtain rfl : k = figN c := by omega
            exact absurd (hex_figN c h) HQ.out
        case measure => have := HK.out; simp; omega
    · obtain rfl : k = 16 := by omega
      have hnx := fun ty => figS_end w ty
      have HNO := Lib.hid hno
      clear hno hk hlt
      go_wp2
      go_ret2
      have hf : ¬ figN c < 16 := fun h => by have := HNO.out h; omega
      refine ⟨?_, (Below.refl _ _).alloc (Nat.le_refl _) _⟩
      have e1 : figI c = 0 := by unfold figI; rw [if_neg hf]
      have e2 : figOk c = false := by unfold figOk; exact decide_eq_false hf
      rw [e1, e2]
      rfl
end Go.Proofs.YtjplfkcelkijfaaGreatDoor
