/- What rows of places stand for: plain Lean, no condition. -/
import Derived.Test.YtolaecdopfmbgaaDoorGlT
import Derived.Test.YtolaecdopfmbgaaDoorGlP
namespace Go.Proofs.YtolaecdopfmbgaaDoor.Gl

def Good (p : ByteArray) (k : Nat) : Prop := k ≤ p.size ∧ (partsL (p.data.toList.drop k)).all (·.ok) = true
/-- the place behind the part at k, for a byte -/
def Nx (p : ByteArray) (c : UInt8) (k : Nat) : Option Nat :=
  if h : k < p.size then
    if (headG p[k] (p.data.toList.drop (k + 1))).1.m then some k
    else if (headG p[k] (p.data.toList.drop (k + 1))).1.f c.toNat then some (k + 1 + (headG p[k] (p.data.toList.drop (k + 1))).2) else none
  else none

theorem headG_m (c : UInt8) (r : List UInt8) : (headG c r).1.m = decide (c = 42) := by
  unfold headG
  by_cases h1 : c = 42
  · rw [if_pos h1, decide_eq_true h1]
  · rw [if_neg h1, decide_eq_false h1]
    by_cases h2 : c = 63
    · rw [if_pos h2]
    · rw [if_neg h2]
      by_cases h3 : c = 91
      · rw [if_pos h3]; split <;> rfl
      · rw [if_neg h3]
theorem headG_star (r : List UInt8) : headG 42 r = (⟨true, noBytes, true⟩, 0) := by unfold headG; rw [if_pos rfl]
theorem good_next {p : ByteArray} {k : Nat} (h : Good p k) (hk : k < p.size) : Good p (k + 1 + (headG p[k] (p.data.toList.drop (k + 1))).2) := by
  obtain ⟨_, h2⟩ := h
  rw [partsL_at p k hk, List.all_cons, Bool.and_eq_true] at h2
  refine ⟨?_, h2.2⟩
  by_cases h9 : p[k] = 91
  · rw [h9] at h2 ⊢
    have hE := endG_lt (p.data.toList.drop (k + 1))
    have hl : p.data.toList.length = p.size := by simp
    rw [List.length_drop, hl] at hE
    by_cases h3 : endG (p.data.toList.drop (k + 1)) < 0
    · rw [headG_open _ h3] at h2; exact absurd h2.1 (by simp)
    · obtain ⟨m, hm⟩ := Int.eq_ofNat_of_zero_le (Int.not_lt.1 h3)
      rw [headG_class _ m hm]
      show k + 1 + (m + 1) ≤ p.size
      omega
  · rw [(headG_ok h9 _).2]; omega
theorem good_star {p : ByteArray} {k : Nat} (h : Good p k) (hk : k < p.size) (hs : p[k] = 42) : Good p (k + 1) := by
  have := good_next h hk
  rwa [hs, headG_star] at this
theorem nx_good {p : ByteArray} {c : UInt8} {k k' : Nat} (h : Good p k) (hn : Nx p c k = some k') : Good p k' := by
  unfold Nx at hn
  by_cases hk : k < p.size
  · rw [dif_pos hk] at hn
    split at hn
    · cases hn; exact h
    · split at hn
      · cases hn; exact good_next h hk
      · cases hn
  · rw [dif_neg hk] at hn; cases hn
theorem M_star {p : ByteArray} {k : Nat} (hk : k < p.size) (hs : p[k] = 42) (u : List UInt8) : M (partsL (p.data.toList.drop k)) u = (M (partsL (p.data.toList.drop (k + 1))) u || (!u.isEmpty && M (partsL (p.data.toList.drop k)) u.tail)) := by
  rw [partsL_at p k hk, hs, headG_star]
  exact M_many rfl _ _
theorem M_else {p : ByteArray} {k : Nat} (hk : k < p.size) (hs : p[k] ≠ 42) (c : UInt8) (t : List UInt8) : M (partsL (p.data.toList.drop k)) (c :: t) = ((headG p[k] (p.data.toList.drop (k + 1))).1.f c.toNat && M (partsL (p.data.toList.drop (k + 1 + (headG p[k] (p.data.toList.drop (k + 1))).2))) t) := by
  rw [partsL_at p k hk]
  exact M_one (by rw [headG_m, decide_eq_false hs]) _ _
theorem M_out {p : ByteArray} {k : Nat} (hk : p.size ≤ k) (c : UInt8) (t : List UInt8) : M (partsL (p.data.toList.drop k)) (c :: t) = false := by
  rw [List.drop_eq_nil_of_le (by simpa using hk), partsL, M]; rfl
theorem nx_star {p : ByteArray} {k : Nat} (hk : k < p.size) (hs : p[k] = 42) (c : UInt8) : Nx p c k = some k := by
  unfold Nx; rw [dif_pos hk, if_pos (by rw [headG_m, decide_eq_true hs])]
theorem nx_else {p : ByteArray} {k : Nat} (hk : k < p.size) (hs : p[k] ≠ 42) (c : UInt8) : Nx p c k = if (headG p[k] (p.data.toList.drop (k + 1))).1.f c.toNat then some (k + 1 + (headG p[k] (p.data.toList.drop (k + 1))).2) else none := by
  unfold Nx; rw [dif_pos hk, if_neg (by rw [headG_m, decide_eq_false hs]; simp)]

def on (B : List Bool) (k : Nat) : Prop := B.getD k false = true
/-- a row of places stands for what is left of the text -/
structure Cov (p : ByteArray) (s : List UInt8) (i : Nat) (B : List Bool) : Prop where
  good : ∀ k, on B k → Good p k
  sound : ∀ k, on B k → M (partsL (p.data.toList.drop k)) (s.drop i) = true → M (partsL p.data.toList) s = true
  full : M (partsL p.data.toList) s = true → ∃ k, on B k ∧ M (partsL (p.data.toList.drop k)) (s.drop i) = true
def Shut (p : ByteArray) (n : Nat) (B : List Bool) : Prop := ∀ k (h : k < p.size), k < n → on B k → p[k] = 42 → on B (k + 1)

theorem on_set {B : List Bool} {j k : Nat} (h : j < B.length) : on (B.set j true) k ↔ k = j ∨ on B k := by
  unfold on
  rw [List.getD_eq_getElem?_getD, List.getD_eq_getElem?_getD, List.getElem?_set]
  by_cases e : j = k
  · subst e; rw [if_pos rfl, if_pos h]; simp
  · rw [if_neg e]; constructor
    · exact .inr
    · rintro (rfl | h2)
      · exact absurd rfl e
      · exact h2
theorem on_mark {n : Nat} {B : List Bool} {j : Int} {k : Nat} : on (markL n B j) k ↔ k < n ∧ ((k : Int) = j ∨ on B k) := by
  unfold on markL
  rw [List.getD_eq_getElem?_getD, List.getElem?_map]
  by_cases h : k < n
  · rw [List.getElem?_range h]; simp [h]
  · rw [List.getElem?_eq_none (by simp; omega)]; simp [h]

theorem reach_cov {p : ByteArray} {s : List UInt8} {i : Nat} {B : List Bool} (hl : B.length = p.size + 1) (h : Cov p s i B) : ∀ j, j ≤ p.size → Cov p s i (reachTo p.data.toList j B) ∧ Shut p j (reachTo p.data.toList j B)
  | 0, _ => ⟨h, fun k _ hk => by omega⟩
  | j + 1, hj => by
    obtain ⟨h1, h2⟩ := reach_cov hl h j (by omega)
    have hj' : j < p.size := by omega
    have hpj : p.data.toList[j]? = some p[j] := by rw [List.getElem?_eq_getElem (by simpa using hj')]; rfl
    have hlen := reachTo_length p.data.toList B j
    rw [reachTo]
    by_cases hc : ((reachTo p.data.toList j B).getD j false && p.data.toList[j]? == some 42) = true
    · rw [if_pos hc]
      rw [Bool.and_eq_true, hpj] at hc
      have hs : p[j] = 42 := by simpa using hc.2
      have hon : on (reachTo p.data.toList j B) j := hc.1
      refine ⟨⟨fun k hk => ?_, fun k hk hm => ?_, fun hm => ?_⟩, fun k hk hkj hok hks => ?_⟩
      · rcases (on_set (by omega)).1 hk with rfl | hk
        · exact good_star (h1.good j hon) hj' hs
        · exact h1.good k hk
      · rcases (on_set (by omega)).1 hk with rfl | hk
        · exact h1.sound j hon (by rw [M_star hj' hs, hm]; rfl)
        · exact h1.sound k hk hm
      · obtain ⟨k, hk, hm⟩ := h1.full hm
        exact ⟨k, (on_set (by omega)).2 (.inr hk), hm⟩
      · refine (on_set (by omega)).2 ?_
        rcases (on_set (by omega)).1 hok with rfl | hok
        · omega
        · by_cases e : k = j
          · exact .inl (by rw [e])
          · exact .inr (h2 k hk (by omega) hok hks)
    · rw [if_neg hc]
      refine ⟨h1, fun k hk hkj hok hks => ?_⟩
      by_cases e : k = j
      · subst e
        exfalso; apply hc
        rw [Bool.and_eq_true, hpj, hks]
        exact ⟨hok, by simp⟩
      · exact h2 k hk (by omega) hok hks

theorem cov_start {p : ByteArray} {s : List UInt8} (h : Good p 0) : Cov p s 0 (markL (p.size + 1) [] 0) := by
  refine ⟨fun k hk => ?_, fun k hk hm => ?_, fun hm => ⟨0, on_mark.2 ⟨by omega, .inl rfl⟩, hm⟩⟩
  all_goals
    obtain ⟨_, hk | hk⟩ := on_mark.1 hk
    · obtain rfl : k = 0 := by omega
      assumption
    · simp [on] at hk

/-- the places behind a byte -/
def Next (p : ByteArray) (c : UInt8) (B : List Bool) (j : Nat) (N : List Bool) : Prop := ∀ k', on N k' ↔ ∃ k, k < j ∧ on B k ∧ Nx p c k = some k'

theorem cov_next {p : ByteArray} {s : List UInt8} {i : Nat} {c : UInt8} {B N : List Bool} (hc : s[i]? = some c) (h : Cov p s i B) (hs : Shut p p.size B) (hN : Next p c B p.size N) : Cov p s (i + 1) (markL (p.size + 1) N (-1)) := by
  have hd := drop_at hc
  have hon : ∀ k', on (markL (p.size + 1) N (-1)) k' ↔ on N k' := fun k' => by
    rw [on_mark]
    constructor
    · rintro ⟨_, h1 | h1⟩
      · omega
      · exact h1
    · intro h1
      obtain ⟨k, _, hk, hx⟩ := (hN k').1 h1
      have := (nx_good (h.good k hk) hx).1
      exact ⟨by omega, .inr h1⟩
  refine ⟨fun k' hk => ?_, fun k' hk hm => ?_, fun hm => ?_⟩
  · obtain ⟨k, _, hk, hx⟩ := (hN k').1 ((hon k').1 hk)
    exact nx_good (h.good k hk) hx
  · obtain ⟨k, hlt, hk, hx⟩ := (hN k').1 ((hon k').1 hk)
    refine h.sound k hk ?_
    rw [hd]
    by_cases h4 : p[k] = 42
    · rw [nx_star hlt h4] at hx; cases hx
      rw [M_star hlt h4]; simp [hm]
    · rw [nx_else hlt h4] at hx
      split at hx
      · rename_i hf
        cases hx
        rw [M_else hlt h4, hf, hm]; rfl
      · cases hx
  · obtain ⟨k, hk, hm⟩ := h.full hm
    rw [hd] at hm
    have key : ∀ d k, p.size - k = d → on B k → M (partsL (p.data.toList.drop k)) (c :: s.drop (i + 1)) = true → ∃ k', on N k' ∧ M (partsL (p.data.toList.drop k')) (s.drop (i + 1)) = true := by
      intro d
      induction d with
      | zero =>
        intro k hd hk hm
        rw [M_out (by omega)] at hm; cases hm
      | succ d ih =>
        intro k hd hk hm
        have hlt : k < p.size := by omega
        by_cases h4 : p[k] = 42
        · rw [M_star hlt h4, Bool.or_eq_true] at hm
          rcases hm with hm | hm
          · exact ih (k + 1) (by omega) (hs k hlt hlt hk h4) hm
          · rw [Bool.and_eq_true] at hm
            exact ⟨k, (hN k).2 ⟨k, hlt, hk, nx_star hlt h4 c⟩, hm.2⟩
        · rw [M_else hlt h4, Bool.and_eq_true] at hm
          exact ⟨_, (hN _).2 ⟨k, hlt, hk, by rw [nx_else hlt h4, if_pos hm.1]⟩, hm.2⟩
    obtain ⟨k', hk', hm'⟩ := key _ k rfl hk hm
    exact ⟨k', (hon k').2 hk', hm'⟩

theorem cov_done {p : ByteArray} {s : List UInt8} {B : List Bool} (h : Cov p s s.length B) (hs : Shut p p.size B) : B.getD p.size false = M (partsL p.data.toList) s := by
  rw [Bool.eq_iff_iff]
  constructor
  · intro hb
    refine h.sound p.size hb ?_
    rw [List.drop_eq_nil_of_le (by simp), List.drop_length, partsL, M]; rfl
  · intro hm
    obtain ⟨k, hk, hm⟩ := h.full hm
    rw [List.drop_length] at hm
    have key : ∀ d k, p.size - k = d → k ≤ p.size → on B k → M (partsL (p.data.toList.drop k)) [] = true → on B p.size := by
      intro d
      induction d with
      | zero =>
        intro k hd hle hk _
        obtain rfl : k = p.size := by omega
        exact hk
      | succ d ih =>
        intro k hd hle hk hm
        have hlt : k < p.size := by omega
        by_cases h4 : p[k] = 42
        · rw [M_star hlt h4] at hm
          exact ih (k + 1) (by omega) (by omega) (hs k hlt hlt hk h4) (by simpa using hm)
        · rw [partsL_at p k hlt, M_one (by rw [headG_m, decide_eq_false h4])] at hm
          cases hm
    exact key _ k rfl (h.good k hk).1 hk hm
end Go.Proofs.YtolaecdopfmbgaaDoor.Gl
