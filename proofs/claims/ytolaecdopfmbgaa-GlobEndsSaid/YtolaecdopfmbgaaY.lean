/- Which names a plain pattern, and one with a star between two plain ones, stands for: plain Lean, no condition. -/
import Derived.Test.YtolaecdopfmbgaaX
namespace Go.Proofs.Ytolaecdopfmbgaa

def isPlain (c : UInt8) : Bool := !(c == 42 || c == 63 || c == 91)
def chr (c : UInt8) : PY := ⟨false, upd noBytes c.toNat true, true⟩
def starY : PY := ⟨true, noBytes, true⟩
theorem headG_plain {c : UInt8} (h : isPlain c = true) (r : List UInt8) : headG c r = (chr c, 0) := by
  simp only [isPlain, Bool.not_eq_true', Bool.or_eq_false_iff, beq_eq_false_iff_ne] at h
  unfold headG
  rw [if_neg h.1.1, if_neg h.1.2, if_neg h.2]; rfl
theorem partsL_plain : ∀ (a r : List UInt8), a.all isPlain = true → partsL (a ++ r) = a.map chr ++ partsL r
  | [], r, _ => rfl
  | c :: a, r, h => by
    rw [List.all_cons, Bool.and_eq_true] at h
    rw [List.cons_append, partsL, headG_plain h.1, List.drop_zero, partsL_plain a r h.2]; rfl
theorem partsL_star (r : List UInt8) : partsL (42 :: r) = starY :: partsL r := by
  rw [partsL, headG_star, List.drop_zero]; rfl
theorem partsL_nil : partsL [] = [] := by rw [partsL]
theorem chr_f (a c : UInt8) : (chr a).f c.toNat = (a == c) := by
  show upd noBytes a.toNat true c.toNat = _
  unfold upd noBytes
  by_cases e : a = c
  · subst e; simp
  · rw [if_neg (fun h => e (UInt8.toNat_inj.1 h.symm))]; simp [e]
theorem M_chrs : ∀ (a : List UInt8) (r : List PY) (s : List UInt8), M (a.map chr ++ r) s = (a.isPrefixOf s && M r (s.drop a.length))
  | [], r, s => by simp
  | c :: a, r, [] => by rw [List.map_cons, List.cons_append, M_one rfl]; rfl
  | c :: a, r, d :: s => by
    rw [List.map_cons, List.cons_append, M_one rfl]
    show ((chr c).f d.toNat && M (a.map chr ++ r) s) = _
    rw [chr_f, M_chrs a r s, List.isPrefixOf_cons_cons, List.length_cons, List.drop_succ_cons, Bool.and_assoc]
theorem M_end (s : List UInt8) : M [] s = s.isEmpty := by rw [M]
theorem M_plain (a s : List UInt8) : M (a.map chr) s = (a == s) := by
  have h := M_chrs a [] s
  rw [List.append_nil] at h
  rw [h, M_end, Bool.eq_iff_iff, Bool.and_eq_true, List.isPrefixOf_iff_prefix, List.isEmpty_iff, beq_iff_eq, List.drop_eq_nil_iff]
  constructor
  · rintro ⟨h1, h2⟩; exact h1.eq_of_length_le h2
  · rintro rfl; exact ⟨List.prefix_refl _, Nat.le_refl _⟩
theorem M_starred (l : List PY) (s : List UInt8) : M (starY :: l) s = true ↔ ∃ k, k ≤ s.length ∧ M l (s.drop k) = true := by
  constructor
  · exact M_ends rfl l s
  · rintro ⟨k, hk, hm⟩
    refine M_more rfl l s k hk ?_
    rw [M_many rfl, hm]; rfl
theorem M_between (a b s : List UInt8) : M (a.map chr ++ starY :: b.map chr) s = (decide (a.length + b.length ≤ s.length) && ((s.take a.length == a) && (s.drop (s.length - b.length) == b))) := by
  rw [M_chrs, Bool.eq_iff_iff]
  simp only [Bool.and_eq_true, List.isPrefixOf_iff_prefix, M_starred, M_plain, beq_iff_eq, decide_eq_true_eq]
  constructor
  · rintro ⟨h1, k, hk, hm⟩
    rw [List.drop_drop] at hm
    rw [List.length_drop] at hk
    have hl := congrArg List.length hm
    rw [List.length_drop] at hl
    have hle := h1.length_le
    refine ⟨by omega, (List.prefix_iff_eq_take.1 h1).symm, ?_⟩
    rw [show s.length - b.length = a.length + k by omega]; exact hm.symm
  · rintro ⟨h1, h2, h3⟩
    refine ⟨List.prefix_iff_eq_take.2 h2.symm, s.length - a.length - b.length, by rw [List.length_drop]; omega, ?_⟩
    rw [List.drop_drop, show a.length + (s.length - a.length - b.length) = s.length - b.length by omega, h3]

theorem all_ok_chrs (a : List UInt8) : (a.map chr).all (·.ok) = true := by rw [List.all_map]; simp [chr]
theorem matchG_plain (a s : List UInt8) (h : a.all isPlain = true) (hl : a.length ≤ 60) : matchG a s = (a == s) := by
  have hp : partsL a = a.map chr := by have := partsL_plain a [] h; rwa [List.append_nil, partsL_nil, List.append_nil] at this
  have hr : rightG a = 0 := by unfold rightG; rw [if_neg (by omega), hp, if_pos (all_ok_chrs a)]
  unfold matchG; rw [if_pos hr, hp, M_plain]
theorem matchG_star (s : List UInt8) : matchG [42] s = true := by
  have hp : partsL [42] = [starY] := by rw [partsL_star, partsL_nil]
  have hr : rightG [42] = 0 := by decide +kernel
  unfold matchG; rw [if_pos hr, hp]
  exact (M_starred _ _).2 ⟨s.length, Nat.le_refl _, by rw [List.drop_length, M_end]; rfl⟩
theorem matchG_between (a b s : List UInt8) (ha : a.all isPlain = true) (hb : b.all isPlain = true) (hl : a.length + b.length ≤ 60) :
    matchG (a ++ 42 :: b) s = (decide (a.length + b.length ≤ s.length) && ((s.take a.length == a) && (s.drop (s.length - b.length) == b))) := by
  have hpb : partsL b = b.map chr := by have := partsL_plain b [] hb; rwa [List.append_nil, partsL_nil, List.append_nil] at this
  have hp : partsL (a ++ 42 :: b) = a.map chr ++ starY :: b.map chr := by rw [partsL_plain a _ ha, partsL_star, hpb]
  have hr : rightG (a ++ 42 :: b) = 0 := by
    unfold rightG
    rw [if_neg (by rw [List.length_append, List.length_cons]; omega), hp, if_pos]
    rw [List.all_append, List.all_cons, all_ok_chrs, all_ok_chrs]; rfl
  unfold matchG; rw [if_pos hr, hp, M_between]
theorem matchG_itself (a b s : List UInt8) (ha : a.all isPlain = true) (hb : b.all isPlain = true) (hl : a.length + b.length ≤ 60) : matchG (a ++ 42 :: b) (a ++ s ++ b) = true := by
  rw [matchG_between a b _ ha hb hl]
  simp only [Bool.and_eq_true, decide_eq_true_eq, beq_iff_eq]
  refine ⟨by simp, by simp, ?_⟩
  rw [show (a ++ s ++ b).length - b.length = (a ++ s).length by simp; omega, List.drop_left]
end Go.Proofs.Ytolaecdopfmbgaa
