/- Plain laws of lines: a line has a reference just when it is that reference's line. No condition. -/
import Derived.Lib.AtoiTie
import Derived.Test.YtolaecdopfmbgaaDoorT
import Derived.Test.YtolaecdopfmbgaaDoorQ
namespace Go.Proofs.YtolaecdopfmbgaaDoor
open Go.RowKit

theorem hexP_cons2 (a b : UInt8) (l : List UInt8) : hexP (a :: b :: l) = UInt8.ofNat (16 * figU a + figU b) :: hexP l := by
  unfold hexP
  rw [show (a :: b :: l).length / 2 = l.length / 2 + 1 by simp only [List.length_cons]; omega, List.range_succ_eq_map, List.map_cons, List.map_map]
  rfl
theorem hexOk_two (a b : UInt8) (l : List UInt8) : hexOk (a :: b :: l) = true ↔ figU a < 16 ∧ figU b < 16 ∧ hexOk l = true := by
  unfold hexOk
  rw [show (a :: b :: l).length % 2 = l.length % 2 by simp only [List.length_cons]; omega]
  simp only [List.all_cons, Bool.and_eq_true, decide_eq_true_eq, and_assoc]
theorem hexL_cons (c : UInt8) (d : List UInt8) : hexL (c :: d) = hexD (c.toNat / 16) :: hexD (c.toNat % 16) :: hexL d := by
  unfold hexL; rw [List.flatMap_cons]; rfl
theorem figU_hexD {n : Nat} (h : n < 16) : figU (hexD n) = n := figN_hex n h
theorem hexD_figU {c : UInt8} (h : figU c < 16) : hexD (figU c) = c := UInt8.toNat_inj.1 (by
  have h2 := hex_figN (c.toNat : Int) h
  unfold figU; omega)
theorem hexOk_hexL : ∀ d, hexOk (hexL d) = true
  | [] => rfl
  | c :: d => by
    rw [hexL_cons, hexOk_two]
    have := c.toNat_lt
    rw [figU_hexD (by omega), figU_hexD (by omega)]
    exact ⟨by omega, by omega, hexOk_hexL d⟩
theorem hexP_hexL : ∀ d, hexP (hexL d) = d
  | [] => rfl
  | c :: d => by
    have := c.toNat_lt
    rw [hexL_cons, hexP_cons2, figU_hexD (by omega), figU_hexD (by omega), hexP_hexL d, Nat.div_add_mod]
    simp
theorem hexL_hexP : ∀ l, hexOk l = true → hexL (hexP l) = l
  | [], _ => rfl
  | [a], h => by simp [hexOk] at h
  | a :: b :: l, h => by
    obtain ⟨h1, h2, h3⟩ := (hexOk_two a b l).1 h
    rw [hexP_cons2, hexL_cons, hexL_hexP l h3]
    have e : (UInt8.ofNat (16 * figU a + figU b)).toNat = 16 * figU a + figU b := by simp; omega
    rw [e, show (16 * figU a + figU b) / 16 = figU a by omega, show (16 * figU a + figU b) % 16 = figU b by omega, hexD_figU h1, hexD_figU h2]

theorem pre_has (p l : List UInt8) : Lib.hasPrefix (p ++ l) p = true := List.isPrefixOf_iff_prefix.2 ⟨_, rfl⟩
theorem pre_trim (p l : List UInt8) : Lib.trimPrefix (p ++ l) p = l := by
  unfold Lib.trimPrefix; rw [if_pos (pre_has p l), List.drop_left]
theorem pre_of {l p : List UInt8} (h : Lib.hasPrefix l p = true) : l = p ++ Lib.trimPrefix l p := by
  obtain ⟨t, rfl⟩ := List.isPrefixOf_iff_prefix.1 h
  rw [pre_trim]
theorem digT_digD {l : List UInt8} (h : digOk l = true) : digT (digD l) = l := by
  have hp : Lib.hasPrefix l kindL = true := by unfold digOk at h; rw [Bool.and_eq_true] at h; exact h.1
  have hx : hexOk (Lib.trimPrefix l kindL) = true := by unfold digOk at h; rw [Bool.and_eq_true, Bool.and_eq_true] at h; exact h.2.1
  have hd : digD l = hexP (Lib.trimPrefix l kindL) := by unfold digD; rw [if_pos h]
  rw [hd, digT, hexL_hexP _ hx, ← pre_of hp]
theorem digOk_digT {d : List UInt8} (h : d.length = 32) : digOk (digT d) = true := by
  unfold digOk digT
  rw [pre_has, pre_trim, hexOk_hexL, hexP_hexL, decide_eq_true h]; rfl
theorem digD_digT {d : List UInt8} (h : d.length = 32) : digD (digT d) = d := by
  unfold digD
  rw [if_pos (digOk_digT h)]
  unfold digT
  rw [pre_trim, hexP_hexL]

theorem hexD_ge (n : Nat) (h : n < 16) : 48 ≤ (hexD n).toNat := by
  rcases Nat.lt_or_ge n 10 with h1 | h1
  · rw [hexD_lo h1]; omega
  · rw [hexD_hi (by omega) h]; omega
theorem digT_ge {d : List UInt8} {c : UInt8} (h : c ∈ digT d) : 48 ≤ c.toNat := by
  unfold digT at h
  rcases List.mem_append.1 h with h | h
  · simp only [kindL, List.mem_cons, List.not_mem_nil, or_false] at h
    rcases h with rfl | rfl | rfl | rfl | rfl | rfl | rfl <;> decide
  · unfold hexL at h
    obtain ⟨x, _, hx⟩ := List.mem_flatMap.1 h
    have := x.toNat_lt
    simp only [List.mem_cons, List.not_mem_nil, or_false] at hx
    rcases hx with rfl | rfl
    · exact hexD_ge _ (by omega)
    · exact hexD_ge _ (by omega)
theorem decDigits_dig : ∀ (m u : Nat), u ≤ m → ∀ c ∈ Lib.decDigits u, 48 ≤ c.toNat ∧ c.toNat ≤ 57
  | m, u, hm, c, h => by
    by_cases h1 : u < 10
    · rw [decDigits_lo h1] at h
      simp only [List.mem_cons, List.not_mem_nil, or_false] at h
      subst h
      simp; omega
    · rw [decDigits_hi h1] at h
      rcases List.mem_append.1 h with h | h
      · exact decDigits_dig (m - 1) (u / 10) (by omega) c h
      · simp only [List.mem_cons, List.not_mem_nil, or_false] at h
        subst h
        simp; omega
  termination_by m => m
  decreasing_by omega
theorem itoa_ge {v : Int} (h : 0 ≤ v) {c : UInt8} (hc : c ∈ Lib.itoa v) : 48 ≤ c.toNat ∧ c.toNat ≤ 57 := by
  obtain ⟨u, rfl⟩ := Int.eq_ofNat_of_zero_le h
  rw [Lib.itoa_nonneg] at hc
  exact decDigits_dig u u (Nat.le_refl _) c hc
theorem decFrom_append : ∀ (l m : List UInt8) (acc : Nat), Lib.decFrom acc (l ++ m) = (Lib.decFrom acc l).bind fun n => Lib.decFrom n m
  | [], _, _ => rfl
  | c :: l, m, acc => by
    simp only [List.cons_append, Lib.decFrom]
    cases Lib.digitVal c with
    | none => rfl
    | some d => exact decFrom_append l m _
theorem decFrom_digits : ∀ (m u : Nat), u ≤ m → Lib.decFrom 0 (Lib.decDigits u) = some u
  | m, u, hm => by
    have hv : ∀ d, d < 10 → Lib.digitVal (UInt8.ofNat (48 + d)) = some d := fun d hd => by
      unfold Lib.digitVal
      have e : (UInt8.ofNat (48 + d)).toNat = 48 + d := by simp; omega
      rw [e, if_pos (by omega)]; simp
    by_cases h1 : u < 10
    · rw [decDigits_lo h1]
      simp only [Lib.decFrom, hv u h1, Nat.zero_mul, Nat.zero_add]
    · rw [decDigits_hi h1, decFrom_append, decFrom_digits (m - 1) (u / 10) (by omega)]
      simp only [Option.bind_some, Lib.decFrom, hv (u % 10) (by omega)]
      congr 1; omega
  termination_by m => m
  decreasing_by omega
theorem atoi_itoa {v : Int} (h0 : 0 ≤ v) (h1 : v ≤ 999999999) : Lib.atoiAll (Lib.itoa v) = .ok v := by
  have hge := fun c => itoa_ge h0 (c := c)
  obtain ⟨u, rfl⟩ := Int.eq_ofNat_of_zero_le h0
  rw [Lib.itoa_nonneg] at *
  have hl := decDigits_len 8 u (by omega)
  rw [Lib.atoiAll_short _ (by omega)]
  have hd := decFrom_digits u u (Nat.le_refl _)
  have hne : Lib.decDigits u ≠ [] := by
    by_cases h : u < 10
    · rw [decDigits_lo h]; simp
    · rw [decDigits_hi h]; simp
  generalize Lib.decDigits u = l at *
  cases l with
  | nil =>
    exact absurd rfl hne
  | cons c r =>
    have hc := hge c (List.mem_cons_self ..)
    have e1 : (c == 45) = false := by rw [beq_eq_false_iff_ne]; rintro rfl; simp at hc
    have e2 : (c == 43) = false := by rw [beq_eq_false_iff_ne]; rintro rfl; simp at hc
    simp only [Lib.atoi, e1, e2, Bool.false_eq_true, if_false, Lib.decNat, List.isEmpty_cons, hd]
    rfl
theorem sizeV_iff {s : List UInt8} {v : Int} : sizeV s = some v ↔ 0 ≤ v ∧ v ≤ 999999999 ∧ Lib.itoa v = s := by
  constructor
  · intro h
    unfold sizeV at h
    split at h
    · split at h
      · rename_i h2
        cases h
        exact h2
      · cases h
    · cases h
  · rintro ⟨h0, h1, rfl⟩
    unfold sizeV
    rw [atoi_itoa h0 h1]
    exact if_pos ⟨h0, h1, rfl⟩

theorem index_hit {c : UInt8} {r : List UInt8} : ∀ a : List UInt8, (∀ x ∈ a, x ≠ c) → Lib.index (a ++ c :: r) [c] = a.length
  | [], _ => by rw [List.nil_append]; unfold Lib.index; rw [if_pos (by simp)]; rfl
  | b :: a, h => by
    have hb : (c == b) = false := by rw [beq_eq_false_iff_ne]; exact fun e => h b (List.mem_cons_self ..) e.symm
    rw [List.cons_append]
    unfold Lib.index
    rw [if_neg (by simp [List.isPrefixOf, hb]), index_hit a fun x hx => h x (List.mem_cons_of_mem _ hx)]
    rw [if_neg (by rw [beq_iff_eq]; omega), List.length_cons]; omega
theorem index_miss {c : UInt8} : ∀ a : List UInt8, (∀ x ∈ a, x ≠ c) → Lib.index a [c] = -1
  | [], _ => rfl
  | b :: a, h => by
    have hb : (c == b) = false := by rw [beq_eq_false_iff_ne]; exact fun e => h b (List.mem_cons_self ..) e.symm
    unfold Lib.index
    rw [if_neg (by simp [List.isPrefixOf, hb]), index_miss a fun x hx => h x (List.mem_cons_of_mem _ hx)]
    rfl
theorem cut_hit {c : UInt8} {a r : List UInt8} (h : ∀ x ∈ a, x ≠ c) : Lib.cut (a ++ c :: r) [c] = (a, r, true) := by
  unfold Lib.cut
  rw [index_hit a h, if_pos (by omega), Int.toNat_natCast, List.take_left]
  have : (a ++ c :: r).drop (a.length + [c].length) = r := by
    rw [← List.drop_drop, List.drop_left]; rfl
  rw [this]
theorem cut_miss {c : UInt8} {a : List UInt8} (h : ∀ x ∈ a, x ≠ c) : Lib.cut a [c] = (a, [], false) := by
  unfold Lib.cut
  rw [index_miss a h, if_neg (by omega)]
theorem cut_ways (c : UInt8) : ∀ l : List UInt8, (∃ a r, l = a ++ c :: r ∧ ∀ x ∈ a, x ≠ c) ∨ ∀ x ∈ l, x ≠ c
  | [] => .inr fun x hx => by cases hx
  | b :: l => by
    by_cases hb : b = c
    · exact .inl ⟨[], l, by rw [hb]; rfl, fun x hx => by cases hx⟩
    · rcases cut_ways c l with ⟨a, r, rfl, h⟩ | h
      · exact .inl ⟨b :: a, r, rfl, fun x hx => by
          rcases List.mem_cons.1 hx with rfl | hx
          · exact hb
          · exact h x hx⟩
      · exact .inr fun x hx => by
          rcases List.mem_cons.1 hx with rfl | hx
          · exact hb
          · exact h x hx

/-- a reference that a line may have -/
def goodR (r : Rf) : Prop := r.d.length = 32 ∧ (r.m = true → r.n = 0) ∧ (r.m = false → 0 ≤ r.n ∧ r.n ≤ 999999999)
theorem lineM (d : List UInt8) (n : Int) : lineL ⟨true, d, n⟩ = manP ++ digT d := rfl
theorem lineB (d : List UInt8) (n : Int) : lineL ⟨false, d, n⟩ = blobP ++ (digT d ++ 32 :: Lib.itoa n) := by
  unfold lineL
  rw [if_neg (by simp)]
  simp [blobP]
theorem blob_not (l : List UInt8) : Lib.hasPrefix (blobP ++ l) manP = false := by
  simp [Lib.hasPrefix, blobP, manP, List.isPrefixOf]
theorem refS_line {r : Rf} (h : goodR r) : refS (lineL r) = some r := by
  obtain ⟨m, d, n⟩ := r
  obtain ⟨hd, h1, h2⟩ := h
  cases m with
  | true =>
    have hn : n = 0 := h1 rfl
    subst hn
    rw [lineM]
    unfold refS
    rw [if_pos (pre_has _ _), pre_trim, if_pos (digOk_digT hd), digD_digT hd]
  | false =>
    have hn := h2 rfl
    rw [lineB]
    unfold refS
    have hc : cutS (blobP ++ (digT d ++ 32 :: Lib.itoa n)) = (digT d, Lib.itoa n, true) := by
      unfold cutS
      rw [pre_trim, cut_hit fun x hx e => by have := digT_ge hx; rw [e] at this; simp at this]
    rw [blob_not, if_neg (by simp), pre_has, hc]
    simp only
    rw [digOk_digT hd, if_pos (by rfl), sizeV_iff.2 ⟨hn.1, hn.2, rfl⟩, digD_digT hd]; rfl
theorem line_refS {l : List UInt8} {r : Rf} (h : refS l = some r) : goodR r ∧ lineL r = l := by
  unfold refS at h
  split at h
  · rename_i hp
    split at h
    · rename_i hq
      cases h
      refine ⟨⟨digD_length _, fun _ => rfl, fun e => by cases e⟩, ?_⟩
      rw [lineM, digT_digD hq, ← pre_of hp]
    · cases h
  · split at h
    · rename_i hp
      rw [Bool.and_eq_true, Bool.and_eq_true] at hp
      obtain ⟨hp, hc, hq⟩ := hp
      obtain ⟨v, hv, rfl⟩ := Option.map_eq_some_iff.1 h
      obtain ⟨h0, h1, h2⟩ := sizeV_iff.1 hv
      refine ⟨⟨digD_length _, fun e => by (cases e), fun _ => ⟨h0, h1⟩⟩, ?_⟩
      rw [lineB, h2, digT_digD hq]
      rcases cut_ways 32 (Lib.trimPrefix l blobP) with ⟨a, t, e, hno⟩ | hno
      · have hcs : cutS l = (a, t, true) := by unfold cutS; rw [e, cut_hit hno]
        rw [hcs]
        show blobP ++ (a ++ 32 :: t) = l
        rw [← e, ← pre_of hp]
      · have hcs : cutS l = (Lib.trimPrefix l blobP, [], false) := by unfold cutS; rw [cut_miss hno]
        rw [hcs] at hc
        cases hc
    · cases h
end Go.Proofs.YtolaecdopfmbgaaDoor
