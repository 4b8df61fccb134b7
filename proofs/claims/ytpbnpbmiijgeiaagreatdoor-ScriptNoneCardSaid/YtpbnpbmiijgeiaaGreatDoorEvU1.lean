/- An evaluator of the program's code, twenty-first part: stores that are laid over memory, in whatever order. No condition. -/
import Derived.Test.YtpbnpbmiijgeiaaGreatDoorEvT
namespace Go.Proofs.YtpbnpbmiijgeiaaGreatDoor.Ev
open Go Go.RowKit

theorem splice_comm {cs : List Value} {o o' : Nat} {xs xs' : List Value} (h : o + xs.length ≤ cs.length) (h' : o' + xs'.length ≤ cs.length) (ha : o + xs.length ≤ o' ∨ o' + xs'.length ≤ o) : splice (splice cs o xs) o' xs' = splice (splice cs o' xs') o xs := by
  apply List.ext_getElem?
  intro i
  rw [splice_get _ _ _ _ (by rw [splice_length _ _ _ h]; exact h'), splice_get _ _ _ _ h, splice_get _ _ _ _ (by rw [splice_length _ _ _ h']; exact h), splice_get _ _ _ _ h']
  by_cases h1 : o ≤ i ∧ i < o + xs.length
  · have h2 : ¬ (o' ≤ i ∧ i < o' + xs'.length) := by omega
    simp only [if_pos h1, if_neg h2]
  · by_cases h2 : o' ≤ i ∧ i < o' + xs'.length
    · simp only [if_neg h1, if_pos h2]
    · simp only [if_neg h1, if_neg h2]

/-- a store laid over what lies under a name -/
def wobj (o : Nat) (xs : List Value) : Option AObj → Option AObj
  | some (.cells cs lk) => if o + xs.length ≤ cs.length then some (.cells (splice cs o xs) none) else some (.cells cs lk)
  | x => x
theorem wobj_comm {o o' : Nat} {xs xs' : List Value} (ha : o + xs.length ≤ o' ∨ o' + xs'.length ≤ o) (x : Option AObj) : wobj o xs (wobj o' xs' x) = wobj o' xs' (wobj o xs x) := by
  cases x with
  | none => rfl
  | some ob =>
    cases ob with
    | map es => rfl
    | ro cs => rfl
    | cells cs lk =>
      simp only [wobj]
      by_cases h1 : o + xs.length ≤ cs.length
      · by_cases h2 : o' + xs'.length ≤ cs.length
        · rw [if_pos h1, if_pos h2]
          simp only [wobj]
          rw [if_pos (by rw [splice_length _ _ _ h2]; exact h1), if_pos (by rw [splice_length _ _ _ h1]; exact h2), splice_comm h1 h2 ha]
        · rw [if_pos h1, if_neg h2]
          simp only [wobj]
          rw [if_pos h1, if_neg (by rw [splice_length _ _ _ h1]; exact h2)]
      · by_cases h2 : o' + xs'.length ≤ cs.length
        · rw [if_neg h1, if_pos h2]
          simp only [wobj]
          rw [if_pos h2, if_neg (by rw [splice_length _ _ _ h2]; exact h1)]
        · rw [if_neg h1, if_neg h2]
          simp only [wobj]
          rw [if_neg h1, if_neg h2]

/-- which store each operation is: name, first cell, cells -/
abbrev PW := Nat → Option (Nat × Nat × List Value)
def Hits (pw : PW) (i b : Nat) : Prop := ∃ o xs, pw i = some (b, o, xs)
def stepB (pw : PW) (i b : Nat) (x : Option AObj) : Option AObj :=
  match pw i with
  | some (b', o, xs) => if b' = b then wobj o xs x else x
  | none => x
def fw (pw : PW) (sel : Nat → Bool) (b p : Nat) : Nat → Option AObj → Option AObj
  | 0, x => x
  | n + 1, x => if sel (p + n) = true then stepB pw (p + n) b (fw pw sel b p n x) else fw pw sel b p n x

theorem stepB_not {pw : PW} {i b : Nat} {x : Option AObj} (h : ¬ Hits pw i b) : stepB pw i b x = x := by
  unfold stepB
  cases hp : pw i with
  | none => rfl
  | some t =>
    obtain ⟨b', o, xs⟩ := t
    simp only []
    rw [if_neg]
    rintro rfl
    exact h ⟨o, xs, hp⟩
theorem stepB_hit {pw : PW} {i b o : Nat} {xs : List Value} {x : Option AObj} (h : pw i = some (b, o, xs)) : stepB pw i b x = wobj o xs x := by
  unfold stepB
  rw [h]
  simp

theorem fw_congr {pw : PW} {sel sel' : Nat → Bool} {b p : Nat} : ∀ (n : Nat) (x : Option AObj), (∀ i, p ≤ i → i < p + n → Hits pw i b → sel i = sel' i) → fw pw sel b p n x = fw pw sel' b p n x
  | 0, _, _ => rfl
  | n + 1, x, h => by
    rw [fw, fw, fw_congr n x (fun i h1 h2 => h i h1 (by omega))]
    by_cases hh : Hits pw (p + n) b
    · rw [h (p + n) (by omega) (by omega) hh]
    · rw [stepB_not hh]; split <;> split <;> rfl
theorem fw_id {pw : PW} {sel : Nat → Bool} {b p : Nat} : ∀ (n : Nat) (x : Option AObj), (∀ i, p ≤ i → i < p + n → sel i = true → ¬ Hits pw i b) → fw pw sel b p n x = x
  | 0, _, _ => rfl
  | n + 1, x, h => by
    rw [fw, fw_id n x (fun i h1 h2 => h i h1 (by omega))]
    split
    · rename_i hs; exact stepB_not (h (p + n) (by omega) (by omega) hs)
    · rfl
theorem fw_none {pw : PW} {sel : Nat → Bool} {b p : Nat} : ∀ (n : Nat), fw pw sel b p n none = none
  | 0 => rfl
  | n + 1 => by
    rw [fw, fw_none n]
    split
    · unfold stepB
      split
      · split <;> rfl
      · rfl
    · rfl
theorem fw_trunc {pw : PW} {sel : Nat → Bool} {b p : Nat} (m : Nat) : ∀ (n : Nat) (x : Option AObj), m ≤ n → (∀ i, p + m ≤ i → i < p + n → Hits pw i b → sel i = false) → fw pw sel b p n x = fw pw sel b p m x
  | 0, x, h, _ => by
    have : m = 0 := by omega
    rw [this]
  | n + 1, x, h, hs => by
    rcases Nat.lt_or_ge n m with h1 | h1
    · have : m = n + 1 := by omega
      rw [this]
    · rw [fw, fw_trunc m n x h1 (fun i h2 h3 => hs i h2 (by omega))]
      by_cases hh : Hits pw (p + n) b
      · rw [hs (p + n) (by omega) (by omega) hh]; rfl
      · rw [stepB_not hh]; split <;> rfl
theorem fw_add {pw : PW} {sel sel' : Nat → Bool} {b p k : Nat} (hs : sel k = false) (hs' : ∀ i, sel' i = (sel i || decide (i = k))) : ∀ (n : Nat) (x : Option AObj), p ≤ k → k < p + n →
    (∀ i, k < i → i < p + n → sel i = true → ∀ y, stepB pw i b (stepB pw k b y) = stepB pw k b (stepB pw i b y)) → fw pw sel' b p n x = stepB pw k b (fw pw sel b p n x)
  | 0, _, h1, h2, _ => by omega
  | n + 1, x, h1, h2, hc => by
    rw [fw, fw]
    by_cases e : p + n = k
    · have hlow : fw pw sel' b p n x = fw pw sel b p n x := fw_congr n x (fun i h3 h4 _ => by rw [hs', decide_eq_false (by omega), Bool.or_false])
      rw [e, hlow, hs', hs]
      simp
    · have ih := fw_add hs hs' n x h1 (by omega) (fun i h3 h4 => hc i h3 (by omega))
      rw [hs', decide_eq_false e, Bool.or_false, ih]
      by_cases hsel : sel (p + n) = true
      · rw [if_pos hsel, if_pos hsel]; exact hc (p + n) (by omega) (by omega) hsel _
      · rw [if_neg hsel, if_neg hsel]

/-- what a cell block becomes -/
theorem wobj_shape {o : Nat} {xs : List Value} {cs : List Value} {lk : Option Nat} : ∃ cs' lk', wobj o xs (some (.cells cs lk)) = some (.cells cs' lk') ∧ cs'.length = cs.length ∧ (lk' = none ∨ lk' = lk) := by
  simp only [wobj]
  by_cases h : o + xs.length ≤ cs.length
  · rw [if_pos h]; exact ⟨_, _, rfl, splice_length _ _ _ h, .inl rfl⟩
  · rw [if_neg h]; exact ⟨_, _, rfl, rfl, .inr rfl⟩
theorem fw_shape {pw : PW} {sel : Nat → Bool} {b p : Nat} {cs : List Value} {lk : Option Nat} : ∀ n, ∃ cs' lk', fw pw sel b p n (some (.cells cs lk)) = some (.cells cs' lk') ∧ cs'.length = cs.length ∧ (lk' = none ∨ lk' = lk)
  | 0 => ⟨cs, lk, rfl, rfl, .inr rfl⟩
  | n + 1 => by
    obtain ⟨cs1, lk1, h1, h2, h3⟩ := fw_shape (pw := pw) (sel := sel) (b := b) (p := p) (cs := cs) (lk := lk) n
    rw [fw, h1]
    split
    · unfold stepB
      split
      · split
        · rename_i o xs _ _
          obtain ⟨cs2, lk2, h4, h5, h6⟩ := wobj_shape (o := o) (xs := xs) (cs := cs1) (lk := lk1)
          refine ⟨cs2, lk2, h4, by omega, ?_⟩
          rcases h6 with h6 | h6
          · exact .inl h6
          · rw [h6]; exact h3
        · exact ⟨cs1, lk1, rfl, h2, h3⟩
      · exact ⟨cs1, lk1, rfl, h2, h3⟩
    · exact ⟨cs1, lk1, rfl, h2, h3⟩
theorem fw_other {pw : PW} {sel : Nat → Bool} {b p : Nat} {ob : AObj} (h : ∀ cs lk, ob ≠ .cells cs lk) : ∀ n, fw pw sel b p n (some ob) = some ob
  | 0 => rfl
  | n + 1 => by
    have hw : ∀ o xs, wobj o xs (some ob) = some ob := by
      intro o xs
      cases ob with
      | cells cs lk => exact absurd rfl (h cs lk)
      | _ => rfl
    rw [fw, fw_other h n]
    split
    · unfold stepB
      split
      · split
        · exact hw _ _
        · rfl
      · rfl
    · rfl

/-- the memory with the stores over it that have been carried out -/
def app (pw : PW) (sel : Nat → Bool) (p len : Nat) (T : AMem) : AMem := fun b => fw pw sel b p (len - p) (T b)

theorem bansW_ban {m : Nat} : ∀ {ws : List (Nat × Nat × Nat × Nat)} {i b o l : Nat}, (i, b, o, l) ∈ ws → Nat.testBit m i = false → inBan (bansW m ws) b = true
  | [], _, _, _, _, h, _ => by cases h
  | (i', b', o', l') :: r, i, b, o, l, h, hm => by
    rw [bansW]
    rcases List.mem_cons.1 h with h | h
    · simp only [Prod.mk.injEq] at h
      obtain ⟨rfl, rfl, rfl, rfl⟩ := h
      simp only [hm, cond_false]
      rw [inBan, ble.2 (Nat.le_refl _), ble.2 (Nat.le_refl _)]
      rfl
    · have := bansW_ban h hm
      cases hc : Nat.testBit m i' with
      | true => simpa using this
      | false =>
        simp only [cond_false]
        rw [inBan, this]
        cases Nat.ble b' b <;> cases Nat.ble (b + 1) (b' + 1) <;> rfl
theorem bansW_only {m : Nat} : ∀ {ws : List (Nat × Nat × Nat × Nat)} {b : Nat}, inBan (bansW m ws) b = true → ∃ i o l, (i, b, o, l) ∈ ws ∧ Nat.testBit m i = false
  | [], _, h => by simp [bansW, inBan] at h
  | (i', b', o', l') :: r, b, h => by
    rw [bansW] at h
    cases hc : Nat.testBit m i' with
    | true =>
      simp only [hc, cond_true] at h
      obtain ⟨i, o, l, h1, h2⟩ := bansW_only h
      exact ⟨i, o, l, List.mem_cons_of_mem _ h1, h2⟩
    | false =>
      simp only [hc, cond_false] at h
      rw [inBan] at h
      by_cases hin : b' = b
      · subst hin; exact ⟨i', o', l', List.mem_cons_self .., hc⟩
      · have h' : inBan (bansW m r) b = true := by
          cases e1 : Nat.ble b' b with
          | false => simpa [e1] using h
          | true =>
            cases e2 : Nat.ble (b + 1) (b' + 1) with
            | false => simpa [e1, e2] using h
            | true => exact absurd (by have := ble.1 e1; have := ble.1 e2; omega) hin
        obtain ⟨i, o, l, h1, h2⟩ := bansW_only h'
        exact ⟨i, o, l, List.mem_cons_of_mem _ h1, h2⟩

end Go.Proofs.YtpbnpbmiijgeiaaGreatDoor.Ev
