/- The reference's figures and Line: for sizes from 0 to 999999999. -/
import Derived.Lib.ItoaNum
import Derived.Lib.ItoaMem
import Derived.Lib.ItoaLen
import Derived.Test.YtolaecdopfmbgaaDoorE
namespace Go.Proofs.YtolaecdopfmbgaaDoor
open Go.RowKit

theorem decDigits_lo {u : Nat} (h : u < 10) : Lib.decDigits u = [UInt8.ofNat (48 + u)] := by rw [Lib.decDigits]; simp [h]
theorem decDigits_hi {u : Nat} (h : ¬ u < 10) : Lib.decDigits u = Lib.decDigits (u / 10) ++ [UInt8.ofNat (48 + u % 10)] := by rw [Lib.decDigits]; simp [h]
theorem decDigits_len : ∀ (k u : Nat), u < 10 ^ (k + 1) → (Lib.decDigits u).length ≤ k + 1
  | 0, u, h => by rw [decDigits_lo (by simpa using h)]; simp
  | k + 1, u, h => by
    by_cases h1 : u < 10
    · rw [decDigits_lo h1]; simp
    · rw [decDigits_hi h1, List.length_append]
      have := decDigits_len k (u / 10) (by rw [Nat.pow_succ] at h; omega)
      simp; omega
theorem one_text (w : World) (x : UInt8) : (convert 23 9 (.slice (some ⟨w.heap.size, 0, none⟩) 1 1)).run Tryd.prog (w.alloc (.cells #[.int .u8 x.toNat] 5)) = .ok (.string ⟨[x].toArray⟩) (w.alloc (.cells #[.int .u8 x.toNat] 5)) :=
  run_text _ _ _ [x] (cellsIn_of_range (rangeAt_new w [.int .u8 x.toNat] 5))

set_option maxHeartbeats 1000000 in
set_option maxRecDepth 100000 in
theorem figures_calls : ∀ (m : Nat) (n : Nat) (w : World), n ≤ m → n ≤ 999999999 →
    Calls Tryd.prog 52 #[.int .i64 n] w fun e w' => e = .returned (.string ⟨(Lib.decDigits n).toArray⟩) ∧ Below w.heap.size w w'
  | m, n, w, hm, hn => by
    have hn1 : (n : Int) ≤ 999999999 := by omega
    have ho := one_text w (UInt8.ofNat (48 + n % 10))
    rw [show (((UInt8.ofNat (48 + n % 10)).toNat : Nat) : Int) = 48 + (n : Int) % 10 by simp; omega] at ho
    have HO := Lib.hid ho
    by_cases h : (n : Int) < 10
    · have HL := Lib.hid (decDigits_lo (u := n) (by omega))
      have hq : n % 10 = n := by omega
      have HQ := Lib.hid hq
      clear hm hn ho hq
      go_enter Tryd.func52, Tryd.ntmps52
      go_wp2_with (rw [HO.out])
      go_ret
      refine ⟨?_, (Below.refl _ _).alloc (Nat.le_refl _) _⟩
      rw [HL.out, ← HQ.out]
      simp
    · have HL := Lib.hid (decDigits_hi (u := n) (by omega))
      have IH := Lib.hid (figures_calls (m - 1) (n / 10) (w.alloc (.cells #[.int .u8 (48 + (n : Int) % 10)] 5)) (by omega) (by omega))
      have hlen : ¬ 9223372036854775807 < (Lib.decDigits (n / 10)).length + 1 := by
        have := decDigits_len 8 (n / 10) (by omega)
        omega
      clear hm hn ho
      go_enter Tryd.func52, Tryd.ntmps52
      go_wp2_with (first | (go_at_call 52; refine IH.out.mono ?_; rintro e w1 ⟨rfl, hb⟩) | (rw [HO.out]))
      go_ret
      refine ⟨?_, ((Below.refl _ _).alloc (Nat.le_refl _) _).trans (hb.mono (by simp))⟩
      rw [HL.out]
      show Ending.returned (.string (({ data := (Lib.decDigits (n / 10)).toArray } : ByteArray) ++ { data := [48 + UInt8.ofNat (n % 10)].toArray })) = _
      rw [lits]
      simp
  termination_by m => m
  decreasing_by omega

/-- a reference's line -/
def lineL (r : Rf) : List UInt8 := if r.m then [109, 97, 110, 105, 102, 101, 115, 116, 32] ++ digT r.d else [98, 108, 111, 98, 32] ++ digT r.d ++ [32] ++ Lib.itoa r.n

set_option maxHeartbeats 1000000 in
set_option maxRecDepth 100000 in
theorem refLine_calls (r : Rf) (w : World) (hf : r.fits) (hn : r.m = true ∨ (0 ≤ r.n ∧ r.n ≤ 999999999)) :
    Calls Tryd.prog 30 #[.agg (refV r).toArray] w fun e w' => e = .returned (.string ⟨(lineL r).toArray⟩) ∧ Below w.heap.size w w' := by
  have hr := rangeAt_new w (refV r) 41
  have hr0 := range_m hr
  have hr1 := range_d hr
  have hrn := range_n hr hf
  simp only [Nat.zero_add] at hr1 hrn
  have RD := Lib.hid hr1
  have RN := Lib.hid hrn
  have C1 := Lib.hid (show (Tryd.prog.info? 39).map (·.size) = some (digV r.d).length by rw [size39, digV_length, hf.1])
  have H51 := Lib.hid (refDig_calls r.d · hf.1)
  have hl1 : ¬ 9223372036854775807 < 9 + (digT r.d).length := by rw [digT_length, hf.1]; omega
  have hl2 : ¬ 9223372036854775807 < 5 + (digT r.d).length := by rw [digT_length, hf.1]; omega
  have hl3 : ¬ 9223372036854775807 < 5 + (digT r.d).length + 1 := by rw [digT_length, hf.1]; omega
  cases hm : r.m with
  | true =>
    rw [hm] at hr0
    clear hf hn hr hr1 hrn
    have HM := Lib.hid hm
    clear hm
    go_enter Tryd.func30, Tryd.ntmps30
    go_wp2_with (first | (refine wpList_load_mid rfl 39 _ rfl w.heap.size 1 rfl (digV r.d) _ RD.out Tryd.underlying39 rfl C1.out ?_) | (go_at_call 51; refine (H51.out _).mono ?_; rintro e w1 ⟨rfl, hb⟩))
    go_ret
    refine ⟨?_, ((Below.refl _ _).alloc (Nat.le_refl _) _).trans (hb.mono (by simp))⟩
    unfold lineL
    rw [HM.out, if_pos rfl, ← lits]
    rfl
  | false =>
    rw [hm] at hr0
    obtain ⟨u, hu, hu2⟩ : ∃ u : Nat, r.n = u ∧ u ≤ 999999999 := by
      rcases hn with hn | hn
      · rw [hm] at hn; cases hn
      · exact ⟨r.n.toNat, by omega, by omega⟩
    rw [hu] at RN
    have H52 := Lib.hid (figures_calls u u · (Nat.le_refl _) hu2)
    have hl4 : ¬ 9223372036854775807 < 5 + (digT r.d).length + 1 + (Lib.decDigits u).length := by
      rw [digT_length, hf.1]
      have := decDigits_len 8 u (by omega)
      omega
    have HU := Lib.hid hu
    clear hf hn hr hr1 hrn hu hu2
    have HM := Lib.hid hm
    clear hm
    go_enter Tryd.func30, Tryd.ntmps30
    go_wp2
    have t39 := Tryd.underlying39
    have c1 := C1.out
    go_region_held3 (fun w' => w'.rangeAt w.heap.size 1 (digV r.d) ∧ w'.cell? ⟨w.heap.size, 33, none⟩ = some (.int .i64 u)) (first | exact ⟨RD.out, RN.out⟩ | assumption) (first | (go_at_call 51; refine (H51.out _).mono ?_; rintro e w1 ⟨rfl, hb⟩; have hS1 : w1.rangeAt w.heap.size 1 (digV r.d) ∧ w1.cell? ⟨w.heap.size, 33, none⟩ = some (.int .i64 u) := ⟨rangeAt_below (w := (w.alloc (.cells (refV r).toArray 41)).drew) RD.out hb, (hb.cell (p := ⟨w.heap.size, 33, none⟩) (World.block_lt_of_cell? _ _ RN.out)).trans RN.out⟩) | (go_at_call 52; refine (H52.out _).mono ?_; rintro e w2 ⟨rfl, hb2⟩; have hS2 : w2.rangeAt w.heap.size 1 (digV r.d) ∧ w2.cell? ⟨w.heap.size, 33, none⟩ = some (.int .i64 u) := ⟨rangeAt_below hS1.1 hb2, (hb2.cell (p := ⟨w.heap.size, 33, none⟩) (World.block_lt_of_cell? _ _ hS1.2)).trans hS1.2⟩))
    go_wp2
    go_ret
    refine ⟨?_, (((Below.refl _ _).alloc (Nat.le_refl _) _).drew.trans (hb.mono (by simp))).trans (hb2.mono (by have := hb.size; simp at this; omega))⟩
    unfold lineL
    rw [HM.out, if_neg (by simp), HU.out, Lib.itoa_nonneg, ← lits, ← lits, ← lits]
    rfl
end Go.Proofs.YtolaecdopfmbgaaDoor
