/- Plain laws of hex texts and of digests: one undoes the other. No condition. -/
import Derived.Lib.AtoiTie
import Derived.Test.YtjplfkcelkijfaaGreatDoorHxO
namespace Go.Proofs.YtjplfkcelkijfaaGreatDoor
open Go.RowKit
theorem hexP_cons2 (a b : UInt8) (l : List UInt8) : hexP (a :: b :: l) = UInt8.ofNat (16 * figU a + figU b) :: hexP l := by
  unfold hexP
  rw [show (a :: b :: l).length / 2 = l.length / 2 + 1 by simp only [List.length_cons]; omega, List.range_succ_eq_map, List.map_cons, List.map_map]
  rfl
theorem hexOk_two (a b : UInt8) (l : List UInt8) : hexOk (a :: b :: l) = true ↔ figU a < 16 ∧ figU b < 16 ∧ hexOk l = true := by
  unfold hexOk
  rw [show (a :: b :: l).length % 2 = l.length % 2 by simp only [List.length_cons]; omega]
  simp only [List.all_cons, Bool.and_eq_true, decide_eq_true_eq, and_assoc]
theorem hexL_cons (c : UInt8) (d : List UInt8) : hexL (c :: d) = hexD (c.toNat / 16) :: hexD (c.toNat % 16) :: hexL d := by
  unfold hexL; rw [List.flatMap_cons]; rfl
theorem figU_hexD {n : Nat} (h : n < 16) : figU (hexD n) = n := figN_hex n h
theorem hexD_figU {c : UInt8} (h : figU c < 16) : hexD (figU c) = c := UInt8.toNat_inj.1 (by
  have h2 := hex_figN (c.toNat : Int) h
  unfold figU; omega)
theorem hexOk_hexL : ∀ d, hexOk (hexL d) = true
  | [] => rfl
  | c :: d => by
    rw [hexL_cons, hexOk_two]
    have := c.toNat_lt
    rw [figU_hexD (by omega), figU_hexD (by omega)]
    exact ⟨by omega, by omega, hexOk_hexL d⟩
theorem hexP_hexL : ∀ d, hexP (hexL d) = d
  | [] => rfl
  | c :: d => by
    have := c.toNat_lt
    rw [hexL_cons, hexP_cons2, figU_hexD (by omega), figU_hexD (by omega), hexP_hexL d, Nat.div_add_mod]
    simp
theorem hexL_hexP : ∀ l, hexOk l = true → hexL (hexP l) = l
  | [], _ => rfl
  | [a], h => by simp [hexOk] at h
  | a :: b :: l, h => by
    obtain ⟨h1, h2, h3⟩ := (hexOk_two a b l).1 h
    rw [hexP_cons2, hexL_cons, hexL_hexP l h3]
    have e : (UInt8.ofNat (16 * figU a + figU b)).toNat = 16 * figU a + figU b := by simp; omega
    rw [e, show (16 * figU a + figU b) / 16 = figU a by omega, show (16 * figU a + figU b) % 16 = figU b by omega, hexD_figU h1, hexD_figU h2]
theorem pre_has (p l : List UInt8) : Lib.hasPrefix (p ++ l) p = true := List.isPrefixOf_iff_prefix.2 ⟨_, rfl⟩
theorem pre_trim (p l : List UInt8) : Lib.trimPrefix (p ++ l) p = l := by
  unfold Lib.trimPrefix; rw [if_pos (pre_has p l), List.drop_left]
theorem pre_of {l p : List UInt8} (h : Lib.hasPrefix l p = true) : l = p ++ Lib.trimPrefix l p := by
  obtain ⟨t, rfl⟩ := List.isPrefixOf_iff_prefix.1 h
  rw [pre_trim]
theorem digT_digD {l : List UInt8} (h : digOk l = true) : digT (digD l) = l := by
  have hp : Lib.hasPrefix l kindL = true := by unfold digOk at h; rw [Bool.and_eq_true] at h; exact h.1
  have hx : hexOk (Lib.trimPrefix l kindL) = true := by unfold digOk at h; rw [Bool.and_eq_true, Bool.and_eq_true] at h; exact h.2.1
  have hd : digD l = hexP (Lib.trimPrefix l kindL) := by unfold digD; rw [if_pos h]
  rw [hd, digT, hexL_hexP _ hx, ← pre_of hp]
theorem digOk_digT {d : List UInt8} (h : d.length = 32) : digOk (digT d) = true := by
  unfold digOk digT
  rw [pre_has, pre_trim, hexOk_hexL, hexP_hexL, decide_eq_true h]; rfl
theorem digD_digT {d : List UInt8} (h : d.length = 32) : digD (digT d) = d := by
  unfold digD
  rw [if_pos (digOk_digT h)]
  unfold digT
  rw [pre_trim, hexP_hexL]
theorem hexD_ge (n : Nat) (h : n < 16) : 48 ≤ (hexD n).toNat := by
  rcases Nat.lt_or_ge n 10 with h1 | h1
  · rw [hexD_lo h1]; omega
  · rw [hexD_hi (by omega) h]; omega
theorem digT_ge {d : List UInt8} {c : UInt8} (h : c ∈ digT d) : 48 ≤ c.toNat := by
  unfold digT at h
  rcases List.mem_append.1 h with h | h
  · simp only [kindL, List.mem_cons, List.not_mem_nil, or_false] at h
    rcases h with rfl | rfl | rfl | rfl | rfl | rfl | rfl <;> decide
  · unfold hexL at h
    obtain ⟨x, _, hx⟩ := List.mem_flatMap.1 h
    have := x.toNat_lt
    simp only [List.mem_cons, List.not_mem_nil, or_false] at hx
    rcases hx with rfl | rfl
    · exact hexD_ge _ (by omega)
    · exact hexD_ge _ (by omega)
end Go.Proofs.YtjplfkcelkijfaaGreatDoor
