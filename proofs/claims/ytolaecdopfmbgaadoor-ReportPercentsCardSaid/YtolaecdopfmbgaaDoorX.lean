/- The reference's reading of a line: for every line of at most 140737488351232 bytes. -/
import Derived.Test.YtolaecdopfmbgaaDoorU
import Derived.Test.YtolaecdopfmbgaaDoorV
namespace Go.Proofs.YtolaecdopfmbgaaDoor
open Go.RowKit

/-! plain laws -/
theorem man_of {l : List UInt8} {x : Rf} (hM : Lib.hasPrefix l manP = true) (h : refS l = some x) : x.m = true ∧ x.n = 0 ∧ x.d.length = 32 ∧ l = manP ++ digT x.d := by
  obtain ⟨hg, hl⟩ := line_refS h
  obtain ⟨m, d, n⟩ := x
  cases m with
  | true => exact ⟨rfl, hg.2.1 rfl, hg.1, by rw [← hl, lineM]⟩
  | false => rw [← hl, lineB, blob_not] at hM; cases hM
theorem blob_of {l : List UInt8} {x : Rf} (hM : Lib.hasPrefix l manP = false) (h : refS l = some x) : x.m = false ∧ x.d.length = 32 ∧ 0 ≤ x.n ∧ x.n ≤ 999999999 ∧ l = blobP ++ (digT x.d ++ 32 :: Lib.itoa x.n) := by
  obtain ⟨hg, hl⟩ := line_refS h
  obtain ⟨m, d, n⟩ := x
  cases m with
  | true => rw [← hl, lineM, pre_has] at hM; cases hM
  | false => exact ⟨rfl, hg.1, (hg.2.2 rfl).1, (hg.2.2 rfl).2, by rw [← hl, lineB]⟩
theorem man_short {l : List UInt8} (hM : Lib.hasPrefix l manP = true) (h : l.length < 80) : refS l = none := by
  cases hr : refS l with
  | none => rfl
  | some x =>
    obtain ⟨_, _, hd, e⟩ := man_of hM hr
    rw [e, List.length_append, digT_length, hd] at h
    simp [manP] at h
theorem blob_short {l : List UInt8} (hM : Lib.hasPrefix l manP = false) (h : l.length < 76) : refS l = none := by
  cases hr : refS l with
  | none => rfl
  | some x =>
    obtain ⟨_, hd, _, _, e⟩ := blob_of hM hr
    rw [e, List.length_append, List.length_append, digT_length, hd] at h
    simp [blobP] at h; omega
theorem man_piece {d : List UInt8} (hd : d.length = 32) : ((manP ++ digT d).drop 9).take 71 = digT d := by
  rw [show (manP ++ digT d).drop 9 = digT d from List.drop_left (l₁ := manP), List.take_of_length_le (by rw [digT_length, hd]; decide)]
theorem blob_piece {d t : List UInt8} (hd : d.length = 32) : ((blobP ++ (digT d ++ t)).drop 5).take 71 = digT d := by
  rw [show (blobP ++ (digT d ++ t)).drop 5 = digT d ++ t from List.drop_left (l₁ := blobP)]
  exact List.take_left' (by rw [digT_length, hd])
theorem blob_rest {d t : List UInt8} {c : UInt8} (hd : d.length = 32) : (blobP ++ (digT d ++ c :: t)).drop 77 = t := by
  have e : blobP ++ (digT d ++ c :: t) = (blobP ++ digT d ++ [c]) ++ t := by simp
  rw [e]
  exact List.drop_left' (by rw [List.length_append, List.length_append, digT_length, hd]; rfl)
theorem man_no {l : List UInt8} (hM : Lib.hasPrefix l manP = true) (h : digOk ((l.drop 9).take 71) = false) : refS l = none := by
  cases hr : refS l with
  | none => rfl
  | some x =>
    obtain ⟨_, _, hd, rfl⟩ := man_of hM hr
    rw [man_piece hd, digOk_digT hd] at h; cases h
theorem blob_no {l : List UInt8} (hM : Lib.hasPrefix l manP = false) (h : digOk ((l.drop 5).take 71) = false) : refS l = none := by
  cases hr : refS l with
  | none => rfl
  | some x =>
    obtain ⟨_, hd, _, _, rfl⟩ := blob_of hM hr
    rw [blob_piece hd, digOk_digT hd] at h; cases h
/-- the line is compared -/
theorem man_is {l : List UInt8} (hM : Lib.hasPrefix l manP = true) (r : Rf) (hr : r = ⟨true, digD ((l.drop 9).take 71), 0⟩) : (refS l).isSome = (lineL r == l) ∧ ∀ x, refS l = some x → r = x := by
  have hu : ∀ x, refS l = some x → r = x := fun x hx => by
    obtain ⟨h1, h2, hd, h3⟩ := man_of hM hx
    rw [hr, h3, man_piece hd, digD_digT hd, ← h1, ← h2]
  refine ⟨?_, hu⟩
  cases hs : refS l with
  | none =>
    symm
    rw [Option.isSome_none, beq_eq_false_iff_ne]
    intro e
    have := refS_line (r := r) (by rw [hr]; exact ⟨digD_length _, fun _ => rfl, fun e => by cases e⟩)
    rw [e, hs] at this; cases this
  | some x =>
    symm
    rw [Option.isSome_some, beq_iff_eq, hu x hs]
    exact (line_refS hs).2
/-- the number of figures -/
def sizeF (l : List UInt8) : Int := l.foldl (fun n c => n * 10 + c.toNat - 48) 0
theorem sizeF_dec : ∀ (l : List UInt8) (acc m : Nat), Lib.decFrom acc l = some m → l.foldl (fun (n : Int) c => n * 10 + c.toNat - 48) acc = m
  | [], acc, m, h => by simp only [Lib.decFrom, Option.some.injEq] at h; subst h; rfl
  | c :: l, acc, m, h => by
    simp only [Lib.decFrom] at h
    split at h
    · rename_i d hd
      have ih := sizeF_dec l _ m h
      unfold Lib.digitVal at hd
      split at hd
      · rename_i h2
        simp only [Option.some.injEq] at hd
        rw [List.foldl_cons, ← ih]
        congr 1
        subst hd; omega
      · cases hd
    · cases h
theorem sizeF_itoa {v : Int} (h0 : 0 ≤ v) (h1 : v ≤ 999999999) : sizeF ((Lib.itoa v).take 10) = v := by
  obtain ⟨u, rfl⟩ := Int.eq_ofNat_of_zero_le h0
  rw [Lib.itoa_nonneg]
  have hl := decDigits_len 8 u (by omega)
  rw [List.take_of_length_le (by omega)]
  exact sizeF_dec _ 0 u (decFrom_digits u u (Nat.le_refl _))
theorem sizeF_snoc (l : List UInt8) (c : UInt8) : sizeF (l ++ [c]) = sizeF l * 10 + c.toNat - 48 := by
  unfold sizeF; rw [List.foldl_append]; rfl
theorem sizeF_bound : ∀ (k : Nat) (l : List UInt8), l.length ≤ k → sizeF l ≤ 23 * (10 : Int) ^ k - 23 ∧ -(23 * (10 : Int) ^ k - 23) ≤ sizeF l
  | 0, l, h => by
    have : l = [] := List.eq_nil_of_length_eq_zero (by omega)
    subst this; simp [sizeF]
  | k + 1, l, h => by
    by_cases hl : l = []
    · subst hl
      have : (0 : Int) ≤ 23 * (10 : Int) ^ (k + 1) - 23 := by
        have h1 : (1 : Int) ≤ (10 : Int) ^ (k + 1) := Int.pow_pos (by decide)
        omega
      simp only [sizeF, List.foldl_nil]; omega
    · obtain ⟨l', c, rfl⟩ : ∃ l' c, l = l' ++ [c] := ⟨_, _, (List.dropLast_concat_getLast hl).symm⟩
      have ih := sizeF_bound k l' (by simp at h; omega)
      have hc := c.toNat_lt
      rw [sizeF_snoc, Int.pow_succ]
      omega
theorem blob_is {l : List UInt8} (hM : Lib.hasPrefix l manP = false) (r : Rf) (hr : r = ⟨false, digD ((l.drop 5).take 71), sizeF ((l.drop 77).take 10)⟩) :
    (refS l).isSome = (decide (0 ≤ r.n) && (decide (r.n ≤ 999999999) && (lineL r == l))) ∧ ∀ x, refS l = some x → r = x := by
  have hu : ∀ x, refS l = some x → r = x := fun x hx => by
    obtain ⟨h1, hd, h2, h3, h4⟩ := blob_of hM hx
    rw [hr, h4, blob_piece hd, blob_rest hd, digD_digT hd, sizeF_itoa h2 h3, ← h1]
  refine ⟨?_, hu⟩
  cases hs : refS l with
  | none =>
    symm
    rw [Option.isSome_none, Bool.eq_false_iff]
    intro e
    rw [Bool.and_eq_true, Bool.and_eq_true, decide_eq_true_eq, decide_eq_true_eq, beq_iff_eq] at e
    have := refS_line (r := r) (by rw [hr] at e ⊢; exact ⟨digD_length _, fun e => (by cases e), fun _ => ⟨e.1, e.2.1⟩⟩)
    rw [e.2.2, hs] at this; cases this
  | some x =>
    symm
    obtain ⟨_, _, h2, h3, _⟩ := blob_of hM hs
    rw [Option.isSome_some, Bool.and_eq_true, Bool.and_eq_true, decide_eq_true_eq, decide_eq_true_eq, beq_iff_eq, hu x hs]
    exact ⟨h2, h3, (line_refS hs).2⟩
end Go.Proofs.YtolaecdopfmbgaaDoor
