/- Plain laws of keeping: which names stay by rules, told by groups (the program) and name by name (the reference), are the same. No condition. -/
import Derived.Test.YtolaecdopfmbgaaDoorRa
namespace Go.Proofs.YtolaecdopfmbgaaDoor
open Go.Lib

section
variable (ru : List UInt8 → Nat) (m : Nat) (n : Nat → Int)
/-- the names of a rule -/
def grp (all : List (List UInt8)) (k : Nat) : List (List UInt8) := all.filter fun s => decide (ru s = k)
/-- the last names of a row -/
def lastV (l : List (List UInt8)) (c : Int) : List (List UInt8) := (rowV l).drop ((rowV l).length - c.toNat)
def stayP (all : List (List UInt8)) : List (List UInt8) := rowV (grp ru all m ++ (List.range m).flatMap fun i => lastV (grp ru all i) (n i))
def goneP (all : List (List UInt8)) : List (List UInt8) := all.filter fun s => !decide (s ∈ stayP ru m n all)
def stayB (x : List UInt8) (rest : List (List UInt8)) : Bool := decide (m ≤ ru x) || decide (((grp ru rest (ru x)).length : Int) < n (ru x))
def keepR : List (List UInt8) → List (List UInt8) × List (List UInt8)
  | [] => ([], [])
  | x :: rest => if stayB ru m n x rest then (x :: (keepR rest).1, (keepR rest).2) else ((keepR rest).1, x :: (keepR rest).2)

variable {ru m n}
theorem keepR_sub : ∀ (all : List (List UInt8)), (keepR ru m n all).1.Sublist all ∧ (keepR ru m n all).2.Sublist all
  | [] => ⟨.slnil, .slnil⟩
  | x :: rest => by
    have ih := keepR_sub rest
    unfold keepR
    split
    · exact ⟨ih.1.cons_cons x, ih.2.cons x⟩
    · exact ⟨ih.1.cons x, ih.2.cons_cons x⟩
theorem keepR_mem : ∀ (all : List (List UInt8)) (x : List UInt8), x ∈ all ↔ x ∈ (keepR ru m n all).1 ∨ x ∈ (keepR ru m n all).2
  | [], x => by simp [keepR]
  | y :: rest, x => by
    have ih := keepR_mem rest x
    unfold keepR
    split
    · simp only [List.mem_cons, ih, or_assoc]
    · simp only [List.mem_cons, ih]
      constructor
      · rintro (h | h | h) <;> simp [h]
      · rintro (h | h | h) <;> simp [h]
theorem keepR_apart : ∀ (all : List (List UInt8)), all.Nodup → ∀ x, x ∈ (keepR ru m n all).1 → x ∉ (keepR ru m n all).2
  | [], _, x => by simp [keepR]
  | y :: rest, hn, x => by
    obtain ⟨h1, h2⟩ := List.nodup_cons.1 hn
    have ih := keepR_apart rest h2 x
    have hs := keepR_sub (ru := ru) (m := m) (n := n) rest
    unfold keepR
    split
    · intro hx
      rcases List.mem_cons.1 hx with rfl | hx
      · exact fun h => h1 (hs.2.subset h)
      · exact ih hx
    · intro hx h
      rcases List.mem_cons.1 h with rfl | h
      · exact h1 (hs.1.subset hx)
      · exact ih hx h
theorem keepR_at : ∀ (pre : List (List UInt8)) (x : List UInt8) (post : List (List UInt8)), (pre ++ x :: post).Nodup →
    (x ∈ (keepR ru m n (pre ++ x :: post)).1 ↔ stayB ru m n x post = true)
  | [], x, post, hn => by
    obtain ⟨h1, _⟩ := List.nodup_cons.1 hn
    have hs := keepR_sub (ru := ru) (m := m) (n := n) post
    show x ∈ (keepR ru m n (x :: post)).1 ↔ _
    unfold keepR
    split
    · rename_i h; simp [h]
    · rename_i h
      exact ⟨fun hx => absurd (hs.1.subset hx) h1, fun h' => absurd h' h⟩
  | y :: pre, x, post, hn => by
    obtain ⟨h1, h2⟩ := List.nodup_cons.1 hn
    have ih := keepR_at pre x post h2
    have hne : x ≠ y := fun e => h1 (by subst e; simp)
    show x ∈ (keepR ru m n (y :: (pre ++ x :: post))).1 ↔ _
    unfold keepR
    split
    · simp only [List.mem_cons, hne, false_or]; exact ih
    · exact ih
theorem grp_append (a b : List (List UInt8)) (k : Nat) : grp ru (a ++ b) k = grp ru a k ++ grp ru b k := List.filter_append ..
theorem grp_cons_same (x : List UInt8) (l : List (List UInt8)) : grp ru (x :: l) (ru x) = x :: grp ru l (ru x) := by unfold grp; rw [List.filter_cons]; simp
theorem grp_mem (all : List (List UInt8)) (k : Nat) (x : List UInt8) : x ∈ grp ru all k ↔ x ∈ all ∧ ru x = k := by simp [grp]
theorem drop_mem_nodup (pre post : List (List UInt8)) (x : List UInt8) (hn : (pre ++ x :: post).Nodup) (c : Nat) :
    x ∈ (pre ++ x :: post).drop ((pre ++ x :: post).length - c) ↔ post.length < c := by
  have hx : x ∉ pre := fun h => (List.nodup_append.1 hn).2.2 x h x (List.mem_cons_self ..) rfl
  have hx2 : x ∉ post := by
    have := (List.nodup_append.1 hn).2.1
    exact (List.nodup_cons.1 this).1
  rw [List.drop_append]
  simp only [List.length_append, List.length_cons]
  by_cases h : post.length < c
  · have e : pre.length + (post.length + 1) - c - pre.length = 0 := by omega
    rw [e]
    simp [h]
  · have e : pre.length + (post.length + 1) - c - pre.length = (post.length - c) + 1 := by omega
    rw [e, List.drop_succ_cons]
    constructor
    · intro hm
      rcases List.mem_append.1 hm with hm | hm
      · exact absurd (List.mem_of_mem_drop hm) hx
      · exact absurd (List.mem_of_mem_drop hm) hx2
    · intro h'; exact absurd h' h

theorem stayP_mem (all : List (List UInt8)) (hs : Srt all) (hru : ∀ x, ru x ≤ m) (x : List UInt8) : x ∈ stayP ru m n all ↔ x ∈ (keepR ru m n all).1 := by
  have hg : ∀ k, rowV (grp ru all k) = grp ru all k := fun k => rowV_self _ (hs.filter _)
  unfold stayP
  rw [rowV_mem, List.mem_append, List.mem_flatMap, grp_mem]
  by_cases hx : x ∈ all
  · obtain ⟨pre, post, rfl⟩ := List.append_of_mem hx
    have hn := hs.nodup
    rw [keepR_at pre x post hn]
    unfold stayB
    have hD : ∀ c : Nat, x ∈ (grp ru (pre ++ x :: post) (ru x)).drop ((grp ru (pre ++ x :: post) (ru x)).length - c) ↔ (grp ru post (ru x)).length < c := by
      intro c
      have hn' : (grp ru (pre ++ x :: post) (ru x)).Nodup := List.Pairwise.filter _ hn
      rw [grp_append, grp_cons_same] at hn' ⊢
      exact drop_mem_nodup _ _ _ hn' c
    constructor
    · rintro (⟨_, e⟩ | ⟨i, hi, hxi⟩)
      · simp [e]
      · unfold lastV at hxi
        rw [hg] at hxi
        have e : ru x = i := ((grp_mem _ _ _).1 (List.mem_of_mem_drop hxi)).2
        subst e
        have := (hD _).1 hxi
        rw [Bool.or_eq_true]
        right
        simp only [decide_eq_true_eq]
        omega
    · intro h
      rw [Bool.or_eq_true] at h
      simp only [decide_eq_true_eq] at h
      rcases h with h | h
      · exact Or.inl ⟨hx, by have := hru x; omega⟩
      · by_cases e : ru x = m
        · exact Or.inl ⟨hx, e⟩
        · refine Or.inr ⟨ru x, List.mem_range.2 (by have := hru x; omega), ?_⟩
          unfold lastV
          rw [hg]
          exact (hD _).2 (by omega)
  · constructor
    · rintro (⟨h, _⟩ | ⟨i, _, hxi⟩)
      · exact absurd h hx
      · unfold lastV at hxi
        rw [hg] at hxi
        exact absurd ((grp_mem _ _ _).1 (List.mem_of_mem_drop hxi)).1 hx
    · intro h; exact absurd ((keepR_sub all).1.subset h) hx

theorem stay_eq (all : List (List UInt8)) (hs : Srt all) (hru : ∀ x, ru x ≤ m) : stayP ru m n all = (keepR ru m n all).1 :=
  srt_ext _ _ (rowV_srt _) (hs.sublist (keepR_sub all).1) (stayP_mem all hs hru)
theorem filter_apart : ∀ (all : List (List UInt8)), all.Nodup → (keepR ru m n all).2 = all.filter fun s => !decide (s ∈ (keepR ru m n all).1)
  | [], _ => rfl
  | y :: rest, hn => by
    obtain ⟨h1, h2⟩ := List.nodup_cons.1 hn
    have ih := filter_apart rest h2
    have hs := keepR_sub (ru := ru) (m := m) (n := n) rest
    unfold keepR
    split
    · rw [List.filter_cons, if_neg (by simp)]
      rw [ih]
      apply List.filter_congr
      intro x hx
      have hne : x ≠ y := fun e => h1 (e ▸ hx)
      simp [hne]
    · rename_i hk
      rw [List.filter_cons, if_pos (by simpa using fun h => h1 (hs.1.subset h))]
      rw [← ih]
theorem gone_eq (all : List (List UInt8)) (hs : Srt all) (hru : ∀ x, ru x ≤ m) : goneP ru m n all = (keepR ru m n all).2 := by
  unfold goneP
  rw [stay_eq all hs hru, filter_apart all hs.nodup]

theorem grp_sub {a b : List (List UInt8)} (h : a.Sublist b) (k : Nat) : (grp ru a k).length ≤ (grp ru b k).length := (h.filter _).length_le
theorem keepR_again : ∀ (all : List (List UInt8)), keepR ru m n (keepR ru m n all).1 = ((keepR ru m n all).1, [])
  | [] => rfl
  | x :: rest => by
    have ih := keepR_again rest
    have hs := keepR_sub (ru := ru) (m := m) (n := n) rest
    by_cases h : stayB ru m n x rest = true
    · have e : (keepR ru m n (x :: rest)).1 = x :: (keepR ru m n rest).1 := by rw [keepR, if_pos h]
      have h2 : stayB ru m n x (keepR ru m n rest).1 = true := by
        have := grp_sub (ru := ru) hs.1 (ru x)
        unfold stayB at *
        rw [Bool.or_eq_true] at *
        simp only [decide_eq_true_eq] at *
        omega
      rw [e]
      conv => lhs; unfold keepR
      rw [if_pos h2, ih]
    · have e : (keepR ru m n (x :: rest)).1 = (keepR ru m n rest).1 := by rw [keepR, if_neg h]
      rw [e]
      exact ih
theorem count_one_of {l : List (List UInt8)} (hn : l.Nodup) {x : List UInt8} (hx : x ∈ l) : l.count x = 1 := by
  have h1 := List.nodup_iff_count.1 hn x
  have h2 := List.count_pos_iff.2 hx
  omega
theorem count_one (all : List (List UInt8)) (hn : all.Nodup) (x : List UInt8) (hx : x ∈ all) :
    (keepR ru m n all).1.count x + (keepR ru m n all).2.count x = 1 := by
  have hs := keepR_sub (ru := ru) (m := m) (n := n) all
  have n1 := hs.1.nodup hn
  have n2 := hs.2.nodup hn
  rcases (keepR_mem all x).1 hx with h | h
  · rw [count_one_of n1 h, List.count_eq_zero_of_not_mem (keepR_apart all hn x h)]
  · have h' : x ∉ (keepR ru m n all).1 := fun k => keepR_apart all hn x k h
    rw [List.count_eq_zero_of_not_mem h', count_one_of n2 h]
end
end Go.Proofs.YtolaecdopfmbgaaDoor
