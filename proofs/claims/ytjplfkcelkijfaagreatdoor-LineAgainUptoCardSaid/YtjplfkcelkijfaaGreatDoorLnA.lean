/- Numbers in lines: what number a word is, and that it is the word of that number. Plain, no program in sight. No condition. -/
import Derived.Lib.AtoiAll
import Derived.Lib.ItoaNum
namespace Go.Proofs.YtjplfkcelkijfaaGreatDoor

def isDig (c : UInt8) : Bool := decide (48 ≤ c.toNat ∧ c.toNat ≤ 57)
def figsOf (s : List UInt8) : List UInt8 := if s.head? = some 45 then s.tail else s
def negOf (s : List UInt8) : Bool := decide (s.head? = some 45)
def numBad (s : List UInt8) : Bool := (figsOf s).isEmpty || !(figsOf s).all isDig || (decide ((figsOf s).head? = some 48) && decide (s ≠ [48]))
def decV (acc : Nat) (l : List UInt8) : Nat := l.foldl (fun a c => a * 10 + (c.toNat - 48)) acc
def numV (s : List UInt8) : Int × Int :=
  if numBad s then (0, 3)
  else if negOf s then (if decV 0 (figsOf s) ≤ 9223372036854775808 then (-(decV 0 (figsOf s) : Int), 0) else (0, 20))
  else (if decV 0 (figsOf s) < 9223372036854775808 then ((decV 0 (figsOf s) : Int), 0) else (0, 20))

theorem head_app {α : Type} {l : List α} (m : List α) (h : l ≠ []) : (l ++ m).head? = l.head? := by
  cases l with
  | nil => exact absurd rfl h
  | cons a r => rfl
theorem decV_nil (acc : Nat) : decV acc [] = acc := by unfold decV; rw [List.foldl_nil]
theorem decV_cons (acc : Nat) (c : UInt8) (l : List UInt8) : decV acc (c :: l) = decV (acc * 10 + (c.toNat - 48)) l := by unfold decV; rw [List.foldl_cons]
theorem decV_snoc (acc : Nat) (c : UInt8) (l : List UInt8) : decV acc (l ++ [c]) = decV acc l * 10 + (c.toNat - 48) := by unfold decV; rw [List.foldl_append, List.foldl_cons, List.foldl_nil]
theorem decV_ge : ∀ (l : List UInt8) (acc : Nat), acc ≤ decV acc l
  | [], acc => by rw [decV_nil]; exact Nat.le_refl _
  | c :: l, acc => by rw [decV_cons]; exact Nat.le_trans (by omega) (decV_ge l (acc * 10 + (c.toNat - 48)))
theorem parse_digits : ∀ (l : List UInt8) (acc : Nat), acc < 18446744073709551616 → l.all isDig = true →
    Go.Lib.parseUint10 acc l = if decV acc l < 18446744073709551616 then .ok (decV acc l) else .range
  | [], acc, h, _ => by rw [decV_nil, if_pos h]; rfl
  | c :: l, acc, h, hd => by
    rw [List.all_cons, Bool.and_eq_true] at hd
    obtain ⟨h1, h2⟩ := hd
    have h1' := of_decide_eq_true h1
    have hge := decV_ge l (acc * 10 + (c.toNat - 48))
    rw [decV_cons]
    simp only [Go.Lib.parseUint10]
    rw [if_pos h1']
    by_cases h3 : 1844674407370955162 ≤ acc
    · rw [if_pos h3, if_neg (by omega)]
    · rw [if_neg h3]
      by_cases h4 : 18446744073709551616 ≤ acc * 10 + (c.toNat - 48)
      · rw [if_pos h4, if_neg (by omega)]
      · rw [if_neg h4]
        exact parse_digits l _ (by omega) h2
theorem numBad_false {s : List UInt8} (h : numBad s = false) : figsOf s ≠ [] ∧ (figsOf s).all isDig = true ∧ ((figsOf s).head? = some 48 → s = [48]) := by
  unfold numBad at h
  simp only [Bool.or_eq_false_iff, Bool.not_eq_false', Bool.and_eq_false_iff, decide_eq_false_iff_not, List.isEmpty_eq_false_iff, Classical.not_not] at h
  exact ⟨h.1.1, h.1.2, fun e => h.2.resolve_left (fun g => g e)⟩
theorem head_dig {s : List UInt8} {c : UInt8} (h : s.all isDig = true) (hc : s.head? = some c) : 48 ≤ c.toNat ∧ c.toNat ≤ 57 := by
  cases s with
  | nil => cases hc
  | cons b r =>
    rw [List.all_cons, Bool.and_eq_true] at h
    injection hc with hc
    subst hc
    exact of_decide_eq_true h.1
/-- strconv.Atoi at a word of figures -/
theorem atoi_num {s : List UInt8} (h : numBad s = false) : Go.Lib.atoiAll s = if (numV s).2 = 0 then .ok (numV s).1 else .range := by
  obtain ⟨hne, hall, _⟩ := numBad_false h
  have hnv : numV s = if negOf s then (if decV 0 (figsOf s) ≤ 9223372036854775808 then (-(decV 0 (figsOf s) : Int), 0) else (0, 20))
      else (if decV 0 (figsOf s) < 9223372036854775808 then ((decV 0 (figsOf s) : Int), 0) else (0, 20)) := by
    unfold numV
    rw [if_neg (by rw [h]; simp)]
  rw [hnv]
  clear hnv
  cases s with
  | nil => exact absurd rfl hne
  | cons c r =>
    by_cases hc : c = 45
    · subst hc
      have ef : figsOf (45 :: r) = r := by simp [figsOf]
      rw [ef] at hne hall ⊢
      have en : negOf (45 :: r) = true := by simp [negOf]
      simp only [en, if_true]
      unfold Go.Lib.atoiAll Go.Lib.parseMag
      simp only [show (45 : UInt8).toNat = 45 by decide, or_true, if_true, if_neg hne, true_and, not_true, false_and, if_false]
      rw [parse_digits r 0 (by omega) hall]
      by_cases h1 : decV 0 r < 18446744073709551616
      · rw [if_pos h1]
        by_cases h2 : decV 0 r ≤ 9223372036854775808
        · simp only [if_pos h2, if_true, if_neg (show ¬ 9223372036854775808 < decV 0 r by omega)]
        · simp only [if_neg h2, show ¬ ((20 : Int) = 0) by decide, if_false, if_pos (show 9223372036854775808 < decV 0 r by omega)]
      · simp only [if_neg h1, if_neg (show ¬ decV 0 r ≤ 9223372036854775808 by omega), show ¬ ((20 : Int) = 0) by decide, if_false]
    · have ef : figsOf (c :: r) = c :: r := by simp [figsOf, hc]
      rw [ef] at hne hall ⊢
      have hd := head_dig hall rfl
      have en : negOf (c :: r) = false := by simp [negOf, hc]
      simp only [en, Bool.false_eq_true, if_false]
      unfold Go.Lib.atoiAll Go.Lib.parseMag
      simp only [if_neg (show ¬ (c.toNat = 43 ∨ c.toNat = 45) by omega), if_neg hne]
      rw [parse_digits _ 0 (by omega) hall]
      have h45 : ¬ c.toNat = 45 := by omega
      simp only [h45, not_false_eq_true, true_and, false_and, if_false]
      by_cases h1 : decV 0 (c :: r) < 18446744073709551616
      · rw [if_pos h1]
        by_cases h2 : decV 0 (c :: r) < 9223372036854775808
        · simp only [if_pos h2, if_true, if_neg (show ¬ 9223372036854775808 ≤ decV 0 (c :: r) by omega)]
        · simp only [if_neg h2, show ¬ ((20 : Int) = 0) by decide, if_false, if_pos (show 9223372036854775808 ≤ decV 0 (c :: r) by omega)]
      · simp only [if_neg h1, if_neg (show ¬ decV 0 (c :: r) < 9223372036854775808 by omega), show ¬ ((20 : Int) = 0) by decide, if_false]

theorem decD_lo {u : Nat} (h : u < 10) : Go.Lib.decDigits u = [UInt8.ofNat (48 + u)] := by rw [Go.Lib.decDigits]; simp [h]
theorem decD_hi {u : Nat} (h : ¬ u < 10) : Go.Lib.decDigits u = Go.Lib.decDigits (u / 10) ++ [UInt8.ofNat (48 + u % 10)] := by rw [Go.Lib.decDigits]; simp [h]
theorem ofNat_dig {d : Nat} (h : d < 10) : (UInt8.ofNat (48 + d)).toNat = 48 + d := by simp; omega
theorem decD_spec : ∀ (m u : Nat), u ≤ m → (Go.Lib.decDigits u).all isDig = true ∧ decV 0 (Go.Lib.decDigits u) = u ∧ Go.Lib.decDigits u ≠ [] ∧ ((Go.Lib.decDigits u).head? = some 48 → u = 0)
  | m, u, hm => by
    by_cases h : u < 10
    · rw [decD_lo h]
      refine ⟨?_, ?_, by simp, fun e => ?_⟩
      · simp only [List.all_cons, List.all_nil, Bool.and_true]
        exact decide_eq_true (by rw [ofNat_dig h]; omega)
      · rw [decV_cons, decV_nil, ofNat_dig h]; omega
      · have e' : UInt8.ofNat (48 + u) = 48 := by simpa using e
        have := congrArg UInt8.toNat e'
        rw [ofNat_dig h] at this
        have h48 : (48 : UInt8).toNat = 48 := by decide
        omega
    · obtain ⟨h1, h2, h3, h4⟩ := decD_spec (m - 1) (u / 10) (by omega)
      rw [decD_hi h]
      refine ⟨?_, ?_, by simp, fun e => ?_⟩
      · rw [List.all_append, h1]
        simp only [List.all_cons, List.all_nil, Bool.and_true, Bool.true_and]
        exact decide_eq_true (by rw [ofNat_dig (by omega)]; omega)
      · rw [decV_snoc, h2, ofNat_dig (by omega)]; omega
      · rw [head_app _ h3] at e
        have := h4 e
        omega
  termination_by m => m
  decreasing_by omega
theorem decD_back (n : Nat) : ∀ (l : List UInt8), l.length = n → l.all isDig = true → l ≠ [] → (l.head? = some 48 → l = [48]) → Go.Lib.decDigits (decV 0 l) = l := by
  induction n with
  | zero => intro l hn _ hne _; exact absurd (List.eq_nil_of_length_eq_zero hn) hne
  | succ n ih =>
    intro l hn hall hne h0
    obtain ⟨l', c, rfl⟩ : ∃ l' c, l = l' ++ [c] := ⟨l.dropLast, l.getLast hne, (List.dropLast_concat_getLast hne).symm⟩
    rw [List.all_append, Bool.and_eq_true] at hall
    have hc : 48 ≤ c.toNat ∧ c.toNat ≤ 57 := by simpa [isDig] using hall.2
    have ec : UInt8.ofNat (48 + (c.toNat - 48)) = c := UInt8.toNat_inj.1 (by rw [ofNat_dig (by omega)]; omega)
    rw [decV_snoc]
    by_cases hl : l' = []
    · subst hl
      rw [decV_nil, Nat.zero_mul, Nat.zero_add, decD_lo (by omega), List.nil_append, ec]
    · have hh : (l' ++ [c]).head? = l'.head? := head_app _ hl
      have hh0 : l'.head? ≠ some 48 := fun e => by
        have := h0 (by rw [hh]; exact e)
        have h2 := congrArg List.length this
        simp only [List.length_append, List.length_cons, List.length_nil] at h2
        exact hl (List.eq_nil_of_length_eq_zero (by omega))
      have hi := ih l' (by simpa using hn) hall.1 hl (fun e => absurd e hh0)
      have hpos : decV 0 l' ≠ 0 := fun e => by
        rw [e, decD_lo (by omega)] at hi
        apply hh0
        rw [← hi]; rfl
      rw [decD_hi (by omega), show (decV 0 l' * 10 + (c.toNat - 48)) / 10 = decV 0 l' by omega, show (decV 0 l' * 10 + (c.toNat - 48)) % 10 = c.toNat - 48 by omega, hi, ec]

/-- the word of a number is read as that number -/
theorem num_itoa {v : Int} (h0 : -9223372036854775808 ≤ v) (h1 : v ≤ 9223372036854775807) : numV (Go.Lib.itoa v) = (v, 0) := by
  unfold Go.Lib.itoa
  by_cases hv : v < 0
  · rw [if_pos hv]
    obtain ⟨g1, g2, g3, g4⟩ := decD_spec _ v.natAbs (Nat.le_refl _)
    have ef : figsOf (45 :: Go.Lib.decDigits v.natAbs) = Go.Lib.decDigits v.natAbs := by simp [figsOf]
    have hb : numBad (45 :: Go.Lib.decDigits v.natAbs) = false := by
      unfold numBad
      rw [ef, g1]
      have : (Go.Lib.decDigits v.natAbs).isEmpty = false := by simpa using g3
      rw [this]
      have : decide ((Go.Lib.decDigits v.natAbs).head? = some 48) = false := decide_eq_false fun e => by have := g4 e; omega
      rw [this]; rfl
    unfold numV
    rw [if_neg (by rw [hb]; simp), ef, g2, if_pos (by simp [negOf]), if_pos (by omega)]
    exact Prod.ext (by show -((v.natAbs : Nat) : Int) = v; omega) rfl
  · rw [if_neg hv]
    obtain ⟨g1, g2, g3, g4⟩ := decD_spec _ v.toNat (Nat.le_refl _)
    have hn45 : (Go.Lib.decDigits v.toNat).head? ≠ some 45 := fun e => by
      have := head_dig g1 e
      simp at this
    have ef : figsOf (Go.Lib.decDigits v.toNat) = Go.Lib.decDigits v.toNat := by unfold figsOf; rw [if_neg hn45]
    have hb : numBad (Go.Lib.decDigits v.toNat) = false := by
      unfold numBad
      rw [ef, g1]
      have : (Go.Lib.decDigits v.toNat).isEmpty = false := by simpa using g3
      rw [this]
      have : (decide ((Go.Lib.decDigits v.toNat).head? = some 48) && decide (Go.Lib.decDigits v.toNat ≠ [48])) = false := by
        rw [Bool.and_eq_false_iff]
        by_cases e : (Go.Lib.decDigits v.toNat).head? = some 48
        · right
          have := g4 e
          rw [this, decD_lo (by omega)]; decide
        · left; exact decide_eq_false e
      rw [this]; rfl
    unfold numV
    rw [if_neg (by rw [hb]; simp), ef, g2, if_neg (by simp [negOf, hn45]), if_pos (by omega)]
    exact Prod.ext (by show ((v.toNat : Nat) : Int) = v; omega) rfl
/-- a word that is read as a number is that number's word -/
theorem itoa_num {s : List UInt8} (h : (numV s).2 = 0) : Go.Lib.itoa (numV s).1 = s ∧ -9223372036854775808 ≤ (numV s).1 ∧ (numV s).1 ≤ 9223372036854775807 := by
  unfold numV at h ⊢
  by_cases hb : numBad s = true
  · rw [if_pos hb] at h; simp at h
  · rw [if_neg hb] at h ⊢
    obtain ⟨hne, hall, h0⟩ := numBad_false (by simpa using hb)
    have hback := decD_back _ (figsOf s) rfl hall hne
    by_cases hn : negOf s = true
    · rw [if_pos hn] at h ⊢
      have hn' : s.head? = some 45 := of_decide_eq_true hn
      have ef : figsOf s = s.tail := by unfold figsOf; rw [if_pos hn']
      have es : s = 45 :: s.tail := by cases s with
        | nil => cases hn'
        | cons c r => injection hn' with hn'; subst hn'; rfl
      have h48 : (figsOf s).head? ≠ some 48 := fun e => by
        have := h0 e
        rw [this] at hn'; cases hn'
      have hb2 := hback (fun e => absurd e h48)
      by_cases hr : decV 0 (figsOf s) ≤ 9223372036854775808
      · rw [if_pos hr]
        have hpos : decV 0 (figsOf s) ≠ 0 := fun e => by
          rw [e, decD_lo (by omega)] at hb2
          apply h48; rw [← hb2]; rfl
        refine ⟨?_, by show -9223372036854775808 ≤ -(decV 0 (figsOf s) : Int); omega, by show -(decV 0 (figsOf s) : Int) ≤ 9223372036854775807; omega⟩
        show Go.Lib.itoa (-(decV 0 (figsOf s) : Int)) = s
        unfold Go.Lib.itoa
        rw [if_pos (by omega), show (-(decV 0 (figsOf s) : Int)).natAbs = decV 0 (figsOf s) by omega, hb2, ef]
        exact es.symm
      · rw [if_neg hr] at h; simp at h
    · rw [if_neg hn] at h ⊢
      have hn' : s.head? ≠ some 45 := fun e => hn (decide_eq_true e)
      have ef : figsOf s = s := by unfold figsOf; rw [if_neg hn']
      rw [ef] at hback h0 ⊢
      have hb2 := hback h0
      rw [ef] at h
      by_cases hr : decV 0 s < 9223372036854775808
      · rw [if_pos hr]
        refine ⟨?_, by show -9223372036854775808 ≤ (decV 0 s : Int); omega, by show (decV 0 s : Int) ≤ 9223372036854775807; omega⟩
        show Go.Lib.itoa (decV 0 s : Int) = s
        unfold Go.Lib.itoa
        rw [if_neg (by omega), Int.toNat_natCast, hb2]
      · rw [if_neg hr] at h; simp at h
theorem numV_errs (s : List UInt8) : (numV s).2 = 0 ∨ (numV s).2 = 3 ∨ (numV s).2 = 20 := by
  unfold numV; repeat' split
  all_goals simp
theorem numV_zero {s : List UInt8} (h : (numV s).2 ≠ 0) : (numV s).1 = 0 := by
  unfold numV at h ⊢
  repeat' split
  all_goals first | rfl | (exfalso; revert h; simp [*])
end Go.Proofs.YtjplfkcelkijfaaGreatDoor
