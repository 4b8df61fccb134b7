/- An evaluator of the program's code, twenty-first part, second text: kinds of operations, and the states of the lexical order. No condition. -/
import Derived.Test.YtpbnpbmiijgeiaaGreatDoorEvU1
namespace Go.Proofs.YtpbnpbmiijgeiaaGreatDoor.Ev
open Go Go.RowKit

theorem look_find {c : Ctx} {h : Mem} {b : Nat} {o : AObj} : look c h b = some o ↔ inBan c.ban b = false ∧ h.find b = some o := by
  unfold look
  cases inBan c.ban b <;> simp

/-- kinds of operations: 0 touches no memory or is left out, 1 a store, 2 a load, 3 what writes its own names, 4 what writes the region's names, 5 what is tied to all -/
noncomputable def cls (all : List Oper) (E : Nat → Env) (k : Nat) : Nat :=
  match all[k]? with
  | none => 0
  | some o => bif wantedE all (E k) o && !(pureO o.op) then (bif alone all (masks all []) k then 5 else bif isStore o.op then 1 else bif isLoad o.op then 2 else bif semi all (masks all []) k then 4 else 3) else 0
noncomputable def pwOf (all : List Oper) (E : Nat → Env) : PW := fun k =>
  match all[k]? with
  | none => none
  | some o => bif Nat.beq (cls all E k) 1 then storeAt (E k) o.op else none
noncomputable def qOf (all : List Oper) (E : Nat → Env) (k : Nat) : Nat :=
  match all[k]? with
  | none => 0
  | some o => bif Nat.beq (cls all E k) 2 then loadAt (E k) o.op else 0

theorem pw_cls {all : List Oper} {E : Nat → Env} {k : Nat} {t : Nat × Nat × List Value} (h : pwOf all E k = some t) : cls all E k = 1 := by
  unfold pwOf at h
  split at h
  · cases h
  · cases hb : Nat.beq (cls all E k) 1 with
    | false => simp [hb] at h
    | true => exact Tri.beq_true.1 hb
theorem no_hit {all : List Oper} {E : Nat → Env} {k b : Nat} (h : cls all E k ≠ 1) : ¬ Hits (pwOf all E) k b := by
  rintro ⟨o, xs, e⟩
  exact h (pw_cls e)

theorem cls_cases {all : List Oper} {E : Nat → Env} {k : Nat} {o : Oper} (hk : all[k]? = some o) (hw : wantedE all (E k) o = true) (hp : pureO o.op = false) :
    (alone all (masks all []) k = true ∧ cls all E k = 5) ∨ (alone all (masks all []) k = false ∧ isStore o.op = true ∧ cls all E k = 1) ∨ (alone all (masks all []) k = false ∧ isStore o.op = false ∧ isLoad o.op = true ∧ cls all E k = 2) ∨
    (alone all (masks all []) k = false ∧ isStore o.op = false ∧ isLoad o.op = false ∧ semi all (masks all []) k = true ∧ cls all E k = 4) ∨ (alone all (masks all []) k = false ∧ isStore o.op = false ∧ isLoad o.op = false ∧ semi all (masks all []) k = false ∧ cls all E k = 3) := by
  unfold cls
  rw [hk]
  simp only [hw, hp, Bool.not_false, Bool.and_true, cond_true]
  cases alone all (masks all []) k <;> cases isStore o.op <;> cases isLoad o.op <;> cases semi all (masks all []) k <;> simp
theorem cls_zero {all : List Oper} {E : Nat → Env} {k : Nat} {o : Oper} (hk : all[k]? = some o) (h : wantedE all (E k) o = false ∨ pureO o.op = true) : cls all E k = 0 := by
  unfold cls
  rw [hk]
  rcases h with h | h <;> simp [h]
theorem cls_ne {all : List Oper} {E : Nat → Env} {k : Nat} (h : cls all E k ≠ 0) : ∃ o, all[k]? = some o ∧ wantedE all (E k) o = true ∧ pureO o.op = false := by
  cases hk : all[k]? with
  | none => exact absurd (by unfold cls; rw [hk]) h
  | some o =>
    refine ⟨o, rfl, ?_⟩
    cases hw : wantedE all (E k) o with
    | false => exact absurd (cls_zero hk (.inl hw)) h
    | true =>
      cases hp : pureO o.op with
      | true => exact absurd (cls_zero hk (.inr hp)) h
      | false => exact ⟨rfl, rfl⟩
theorem cls_le5 {all : List Oper} {E : Nat → Env} {k : Nat} : cls all E k ≤ 5 := by
  by_cases h : cls all E k = 0
  · omega
  · obtain ⟨o, hk, hw, hp⟩ := cls_ne h
    rcases cls_cases hk hw hp with h | h | h | h | h <;> omega

theorem tied_symm {ms : List Nat} {i k : Nat} (h : tied ms i k = true) : tied ms k i = true := by
  unfold tied at h ⊢
  rw [Bool.or_comm]; exact h
theorem tied_5 {all : List Oper} {E : Nat → Env} {i k : Nat} (hi : cls all E i = 5) (hk : cls all E k ≠ 0) (hne : k ≠ i) : tied (masks all []) i k = true := by
  obtain ⟨x, hx, hxw, hxp⟩ := cls_ne (show cls all E i ≠ 0 by omega)
  obtain ⟨o, ho, _, hop⟩ := cls_ne hk
  have ha : alone all (masks all []) i = true := by
    rcases cls_cases hx hxw hxp with h | h | h | h | h
    · exact h.1
    all_goals omega
  unfold alone at ha
  have this : (Nat.beq k i || (pureO o.op || tied (masks all []) k i)) = true := List.all_eq_true.1 ha (o, k) (mem_idx ho)
  rw [beqF.2 hne, hop] at this
  simp only [Bool.false_or] at this
  exact tied_symm this
theorem tied_4 {all : List Oper} {E : Nat → Env} {i k : Nat} (hi : cls all E i = 4) (hk : cls all E k ≠ 0) (hk2 : cls all E k ≠ 2) (hne : k ≠ i) : tied (masks all []) i k = true := by
  by_cases h5 : cls all E k = 5
  · exact tied_symm (tied_5 h5 (by omega) (fun e => hne e.symm))
  obtain ⟨x, hx, hxw, hxp⟩ := cls_ne (show cls all E i ≠ 0 by omega)
  obtain ⟨o, ho, how, hop⟩ := cls_ne hk
  have ha : semi all (masks all []) i = true := by
    rcases cls_cases hx hxw hxp with h | h | h | h | h
    · omega
    · omega
    · omega
    · exact h.2.2.2.1
    · omega
  have hl : isLoad o.op = false := by
    rcases cls_cases ho how hop with h | h | h | h | h
    · omega
    · have := h.2.1
      revert this
      cases o.op <;> simp [isStore, isLoad]
    · omega
    · exact h.2.2.1
    · exact h.2.2.1
  unfold semi at ha
  have this : (Nat.beq k i || (pureO o.op || (isLoad o.op || tied (masks all []) k i))) = true := List.all_eq_true.1 ha (o, k) (mem_idx ho)
  rw [beqF.2 hne, hop, hl] at this
  simp only [Bool.false_or] at this
  exact tied_symm this

section
variable {call : CallT} {P : Program} {c : Ctx} {nt m0 : Nat} {all : List Oper} {r : Run}

/-- a step, by its kind -/
inductive At (call : CallT) (P : Program) (c : Ctx) (all : List Oper) (m0 : Nat) (r : Run) (k : Nat) : Prop where
  | quiet (hc : cls all r.E k = 0) (hm : r.M (k + 1) = r.M k) (hh : r.H (k + 1) = r.H k) (hi : r.I (k + 1) = r.I k) (hws : r.W (k + 1) = r.W k) (hqs : r.Q (k + 1) = r.Q k) (hss : r.S (k + 1) = r.S k)
  | store (hc : cls all r.E k = 1) (o : Oper) (hk : all[k]? = some o) (b off : Nat) (xs : List Value) (hpw : pwOf all r.E k = some (b, off, xs)) (hat : storeAt (r.E k) o.op = some (b, off, xs)) (hok : okStore ((masks all []).getD k 0) m0 b off xs.length (r.W k) (r.Q k) = true)
      (hnl : noLink c (r.H k) b = true) (he : evOp call P c (r.E k) (r.H k) (r.M k) o.op = some (r.R k, r.H (k + 1), r.M k)) (hm : r.M (k + 1) = r.M k) (hi : r.I (k + 1) = r.I k) (hws : r.W (k + 1) = (k, b, off, xs.length) :: r.W k) (hqs : r.Q (k + 1) = r.Q k) (hss : r.S (k + 1) = r.S k)
  | load (hc : cls all r.E k = 2) (o : Oper) (hk : all[k]? = some o) (hld : isLoad o.op = true) (hok : okLoad ((masks all []).getD k 0) m0 (qOf all r.E k) (r.S k) = true) (h1 : Mem) (n1 : Nat)
      (he : evOp call P ⟨r.M k, others ((masks all []).getD k 0) (r.I k) ++ (bansW ((masks all []).getD k 0) (r.W k) ++ c.ban)⟩ (r.E k) (r.H k) (r.M k) o.op = some (r.R k, h1, n1)) (hq : qOf all r.E k = loadAt (r.E k) o.op)
      (hm : r.M (k + 1) = r.M k) (hh : r.H (k + 1) = r.H k) (hi : r.I (k + 1) = r.I k) (hws : r.W (k + 1) = r.W k) (hqs : r.Q (k + 1) = (k, qOf all r.E k) :: r.Q k) (hss : r.S (k + 1) = r.S k)
  | loud (hc : 3 ≤ cls all r.E k) (o : Oper) (hk : all[k]? = some o) (hok : cls all r.E k = 4 → okSemi ((masks all []).getD k 0) m0 (r.Q k) = true)
      (he : evOp call P ⟨(if cls all r.E k = 5 then c.lo else if cls all r.E k = 4 then m0 else r.M k), others ((masks all []).getD k 0) (r.I k) ++ (bansW ((masks all []).getD k 0) (r.W k) ++ c.ban)⟩ (r.E k) (r.H k) (r.M k) o.op = some (r.R k, r.H (k + 1), r.M (k + 1)))
      (hle : r.M k ≤ r.M (k + 1)) (hi : r.I (k + 1) = (k, r.M k, r.M (k + 1)) :: r.I k) (hws : r.W (k + 1) = r.W k) (hqs : r.Q (k + 1) = (k, qOf all r.E k) :: r.Q k) (hss : r.S (k + 1) = if cls all r.E k = 4 then k :: r.S k else r.S k)

variable (lex : Lex call P c nt all (masks all []) m0 0 all.length r) (hck : CallKp call)
include lex

theorem lex_at {k : Nat} (hkl : k < all.length) : At call P c all m0 r k := by
  have hk : all[k]? = some all[k] := by simp [hkl]
  cases lex.step k all[k] (by omega) hkl hk with
  | skip hw hr hh hm hi hws hqs hss hp => exact .quiet (cls_zero hk (.inl hw)) hm hh hi hws hqs hss
  | pure hw hpo h1 he hh hm hi hws hqs hss hp => exact .quiet (cls_zero hk (.inr hpo)) hm hh hi hws hqs hss
  | store hw hpo hst hal b off xs hat hok hnl he hm hi hws hqs hss hp =>
    have hc : cls all r.E k = 1 := by
      rcases cls_cases hk hw hpo with h | h | h | h | h
      · rw [hal] at h; cases h.1
      · exact h.2.2
      · rw [hst] at h; cases h.2.1
      · rw [hst] at h; cases h.2.1
      · rw [hst] at h; cases h.2.1
    have hpw : pwOf all r.E k = some (b, off, xs) := by
      unfold pwOf
      rw [hk]
      simp only [hc, Nat.beq_refl, cond_true]
      exact hat
    exact .store hc _ hk b off xs hpw hat hok hnl he hm hi hws hqs hss
  | load hw hpo hst hld hal hok h1 n1 he hh hm hi hws hqs hss hp =>
    have hc : cls all r.E k = 2 := by
      rcases cls_cases hk hw hpo with h | h | h | h | h
      · rw [hal] at h; cases h.1
      · rw [hst] at h; cases h.2.1
      · exact h.2.2.2
      · rw [hld] at h; cases h.2.2.1
      · rw [hld] at h; cases h.2.2.1
    have hq : qOf all r.E k = loadAt (r.E k) all[k].op := by
      unfold qOf
      rw [hk]
      simp only [hc, Nat.beq_refl, cond_true]
    exact .load hc _ hk hld (by rw [hq]; exact hok) h1 n1 he hq hm hh hi hws (by rw [hq]; exact hqs) hss
  | loud hw hpo hcl hok he hle hi hws hqs hss hp =>
    have hq : ∀ x, 3 ≤ x → cls all r.E k = x → qOf all r.E k = 0 := by
      intro x hx e
      unfold qOf
      rw [hk]
      have : Nat.beq (cls all r.E k) 2 = false := beqF.2 (by omega)
      simp only [this, cond_false]
    rcases cls_cases hk hw hpo with h | h | h | h | h
    · refine .loud (by omega) _ hk (fun e => by omega) ?_ hle hi hws (by rw [hq 5 (by omega) h.2]; exact hqs) ?_
      · rw [if_pos h.2]
        simpa only [cxOf, loOf, h.1, cond_true] using he
      · rw [if_neg (by omega)]
        simpa [h.1] using hss
    · exfalso
      rcases hcl with hcl | hcl
      · rw [hcl] at h; cases h.1
      · rw [hcl.1] at h; cases h.2.1
    · exfalso
      rcases hcl with hcl | hcl
      · rw [hcl] at h; cases h.1
      · rw [hcl.2] at h; cases h.2.2.1
    · refine .loud (by omega) _ hk (fun e => ?_) ?_ hle hi hws (by rw [hq 4 (by omega) h.2.2.2.2]; exact hqs) ?_
      · rcases hok with hok | hok | hok
        · rw [hok] at h; cases h.1
        · rw [hok] at h; cases h.2.2.2.1
        · exact hok
      · rw [if_neg (by omega), if_pos h.2.2.2.2]
        simpa only [cxOf, loOf, h.1, h.2.2.2.1, cond_true, cond_false] using he
      · rw [if_pos h.2.2.2.2]
        simpa [h.1, h.2.2.2.1] using hss
    · refine .loud (by omega) _ hk (fun e => by omega) ?_ hle hi hws (by rw [hq 3 (by omega) h.2.2.2.2]; exact hqs) ?_
      · rw [if_neg (by omega), if_neg (by omega)]
        simpa only [cxOf, loOf, h.1, h.2.2.2.1, cond_false] using he
      · rw [if_neg (by omega)]
        simpa [h.1, h.2.2.2.1] using hss

/-- who stands in the lists -/
structure Memb (all : List Oper) (r : Run) (k : Nat) : Prop where
  i1 : ∀ i, i < k → 3 ≤ cls all r.E i → (i, r.M i, r.M (i + 1)) ∈ r.I k
  i2 : ∀ i x y, (i, x, y) ∈ r.I k → i < k ∧ 3 ≤ cls all r.E i ∧ x = r.M i ∧ y = r.M (i + 1)
  w1 : ∀ i, i < k → ∀ b o xs, pwOf all r.E i = some (b, o, xs) → (i, b, o, xs.length) ∈ r.W k
  w2 : ∀ i b o l, (i, b, o, l) ∈ r.W k → i < k ∧ cls all r.E i = 1 ∧ ∃ xs, pwOf all r.E i = some (b, o, xs)
  q1 : ∀ i, i < k → 2 ≤ cls all r.E i → (i, qOf all r.E i) ∈ r.Q k
  s1 : ∀ i, i < k → cls all r.E i = 4 → i ∈ r.S k

theorem lex_memb (hI : r.I 0 = []) (hW : r.W 0 = []) : ∀ k, k ≤ all.length → Memb all r k := by
  intro k
  induction k with
  | zero => exact fun _ => ⟨fun i h => by omega, fun i x y h => (by rw [hI] at h; cases h), fun i h => by omega, fun i b o l h => (by rw [hW] at h; cases h), fun i h => by omega, fun i h => by omega⟩
  | succ k ih =>
    intro hk
    have m := ih (by omega)
    have lt1 : ∀ {i}, i < k + 1 → i ≠ k → i < k := fun h1 h2 => by omega
    cases lex_at lex (by omega : k < all.length) with
    | quiet hc hm hh hi hws hqs hss =>
      refine ⟨fun i h1 h2 => ?_, fun i x y h => ?_, fun i h1 b o xs h2 => ?_, fun i b o l h => ?_, fun i h1 h2 => ?_, fun i h1 h2 => ?_⟩
      · rw [hi]; exact m.i1 i (lt1 h1 (by rintro rfl; omega)) h2
      · rw [hi] at h; obtain ⟨q1, q2⟩ := m.i2 i x y h; exact ⟨by omega, q2⟩
      · rw [hws]; exact m.w1 i (lt1 h1 (by rintro rfl; rw [pw_cls h2] at hc; cases hc)) b o xs h2
      · rw [hws] at h; obtain ⟨q1, q2⟩ := m.w2 i b o l h; exact ⟨by omega, q2⟩
      · rw [hqs]; exact m.q1 i (lt1 h1 (by rintro rfl; omega)) h2
      · rw [hss]; exact m.s1 i (lt1 h1 (by rintro rfl; omega)) h2
    | store hc o' hk' b' off' xs' hpw hat hok hnl he hm hi hws hqs hss =>
      refine ⟨fun i h1 h2 => ?_, fun i x y h => ?_, fun i h1 b o xs h2 => ?_, fun i b o l h => ?_, fun i h1 h2 => ?_, fun i h1 h2 => ?_⟩
      · rw [hi]; exact m.i1 i (lt1 h1 (by rintro rfl; omega)) h2
      · rw [hi] at h; obtain ⟨q1, q2⟩ := m.i2 i x y h; exact ⟨by omega, q2⟩
      · rw [hws]
        by_cases e : i = k
        · subst e
          rw [hpw] at h2
          simp only [Option.some.injEq, Prod.mk.injEq] at h2
          obtain ⟨rfl, rfl, rfl⟩ := h2
          exact List.mem_cons_self ..
        · exact List.mem_cons_of_mem _ (m.w1 i (lt1 h1 e) b o xs h2)
      · rw [hws] at h
        rcases List.mem_cons.1 h with h | h
        · simp only [Prod.mk.injEq] at h
          obtain ⟨rfl, rfl, rfl, rfl⟩ := h
          exact ⟨by omega, hc, xs', hpw⟩
        · obtain ⟨q1, q2⟩ := m.w2 i b o l h; exact ⟨by omega, q2⟩
      · rw [hqs]; exact m.q1 i (lt1 h1 (by rintro rfl; omega)) h2
      · rw [hss]; exact m.s1 i (lt1 h1 (by rintro rfl; omega)) h2
    | load hc o' hk' hld hok h1' n1' he hq hm hh hi hws hqs hss =>
      refine ⟨fun i h1 h2 => ?_, fun i x y h => ?_, fun i h1 b o xs h2 => ?_, fun i b o l h => ?_, fun i h1 h2 => ?_, fun i h1 h2 => ?_⟩
      · rw [hi]; exact m.i1 i (lt1 h1 (by rintro rfl; omega)) h2
      · rw [hi] at h; obtain ⟨q1, q2⟩ := m.i2 i x y h; exact ⟨by omega, q2⟩
      · rw [hws]; exact m.w1 i (lt1 h1 (by rintro rfl; rw [pw_cls h2] at hc; cases hc)) b o xs h2
      · rw [hws] at h; obtain ⟨q1, q2⟩ := m.w2 i b o l h; exact ⟨by omega, q2⟩
      · rw [hqs]
        by_cases e : i = k
        · subst e; exact List.mem_cons_self ..
        · exact List.mem_cons_of_mem _ (m.q1 i (lt1 h1 e) h2)
      · rw [hss]; exact m.s1 i (lt1 h1 (by rintro rfl; omega)) h2
    | loud hc o' hk' hok he hle hi hws hqs hss =>
      refine ⟨fun i h1 h2 => ?_, fun i x y h => ?_, fun i h1 b o xs h2 => ?_, fun i b o l h => ?_, fun i h1 h2 => ?_, fun i h1 h2 => ?_⟩
      · rw [hi]
        by_cases e : i = k
        · subst e; exact List.mem_cons_self ..
        · exact List.mem_cons_of_mem _ (m.i1 i (lt1 h1 e) h2)
      · rw [hi] at h
        rcases List.mem_cons.1 h with h | h
        · simp only [Prod.mk.injEq] at h
          obtain ⟨rfl, rfl, rfl⟩ := h
          exact ⟨by omega, hc, rfl, rfl⟩
        · obtain ⟨q1, q2⟩ := m.i2 i x y h; exact ⟨by omega, q2⟩
      · rw [hws]; exact m.w1 i (lt1 h1 (by rintro rfl; rw [pw_cls h2] at hc; omega)) b o xs h2
      · rw [hws] at h; obtain ⟨q1, q2⟩ := m.w2 i b o l h; exact ⟨by omega, q2⟩
      · rw [hqs]
        by_cases e : i = k
        · subst e; exact List.mem_cons_self ..
        · exact List.mem_cons_of_mem _ (m.q1 i (lt1 h1 e) h2)
      · rw [hss]
        by_cases e : i = k
        · subst e; rw [if_pos h2]; exact List.mem_cons_self ..
        · split
          · exact List.mem_cons_of_mem _ (m.s1 i (lt1 h1 e) h2)
          · exact m.s1 i (lt1 h1 e) h2

/-- a store beside others -/
structure StF (P : Program) (c : Ctx) (all : List Oper) (m0 : Nat) (r : Run) (k b off : Nat) (xs : List Value) : Prop where
  ok : okStore ((masks all []).getD k 0) m0 b off xs.length (r.W k) (r.Q k) = true
  op : ∃ o t x y u, all[k]? = some o ∧ o.op = .store t x y ∧ opv (r.E k) x = some (.pointer (some ⟨b, off, none⟩)) ∧ opv (r.E k) y = some u ∧ xs = u.cells.toList ∧ sizeT P t = some u.cells.size
  mem : ∃ cs, look c (r.H k) b = some (.cells cs none) ∧ off + xs.length ≤ cs.length ∧ r.H (k + 1) = hput (r.H k) b (some (.cells (splice cs off xs) none))
  may : may c (r.M k) b = true
  one : xs.all oneC = true
  res : r.R k = undef
  m : r.M (k + 1) = r.M k

theorem lex_store {k b off : Nat} {xs : List Value} (hkl : k < all.length) (hpw : pwOf all r.E k = some (b, off, xs)) : StF P c all m0 r k b off xs := by
  have hc1 := pw_cls hpw
  cases lex_at lex hkl with
  | quiet hc hm hh hi hws hqs hss => omega
  | load hc o' hk' hld hok h1' n1' he hq hm hh hi hws hqs hss => omega
  | loud hc o' hk' hok he hle hi hws hqs hss => omega
  | store hc o hk b' off' xs' hpw' hat hok hnl he hm hi hws hqs hss =>
    rw [hpw'] at hpw
    simp only [Option.some.injEq, Prod.mk.injEq] at hpw
    obtain ⟨rfl, rfl, rfl⟩ := hpw
    obtain ⟨t, x, y, u, hop, hx, hy, rfl⟩ : ∃ t x y u, o.op = .store t x y ∧ opv (r.E k) x = some (.pointer (some ⟨b', off', none⟩)) ∧ opv (r.E k) y = some u ∧ xs' = u.cells.toList := by
      unfold storeAt at hat
      split at hat
      · rename_i t x y hop
        split at hat
        · rename_i b1 o1 u hx hy
          simp only [Option.some.injEq, Prod.mk.injEq] at hat
          obtain ⟨rfl, rfl, rfl⟩ := hat
          exact ⟨t, x, y, u, hop, hx, hy, rfl⟩
        · cases hat
      · cases hat
    rw [hop] at he
    simp only [evOp, hx, hy] at he
    unfold keepV at he
    split at he
    case h_2 => cases he
    rename_i h1 hs
    simp only [Option.some.injEq, Prod.mk.injEq] at he
    obtain ⟨hr, rfl, _⟩ := he
    unfold aStore at hs
    split at hs
    case h_2 => cases hs
    rename_i b1 o1 s e1 hsz
    simp only [Value.pointer.injEq, Option.some.injEq, Addr.mk.injEq] at e1
    obtain ⟨rfl, rfl, _⟩ := e1
    cases hb : Nat.beq u.cells.size s with
    | false => simp [hb] at hs
    | true =>
    simp only [hb, cond_true] at hs
    have hbe := Tri.beq_true.1 hb
    unfold noLink at hnl
    split at hnl
    case h_2 => cases hnl
    rename_i cs hlk
    unfold aWrite at hs
    rw [hlk] at hs
    simp only [] at hs
    cases hcond : (may c (r.M k) b' && (Nat.ble (off' + u.cells.toList.length) cs.length && u.cells.toList.all oneC)) with
    | false => rw [hcond] at hs; cases hs
    | true =>
    simp only [hcond, cond_true, Option.some.injEq] at hs
    simp only [Bool.and_eq_true] at hcond
    exact ⟨hok, ⟨o, t, x, y, u, hk, hop, hx, hy, rfl, by rw [hsz, hbe]⟩, ⟨cs, hlk, ble.1 hcond.2.1, hs.symm⟩, hcond.1, hcond.2.2, hr.symm, hm⟩

omit lex in
theorem StF.lt {k b off : Nat} {xs : List Value} (s : StF P c all m0 r k b off xs) : b < m0 := by
  have := s.ok
  unfold okStore at this
  simp only [Bool.and_eq_true] at this
  exact ble.1 this.1
omit lex in
theorem hit_of {k b : Nat} (h : Hits (pwOf all r.E) k b) : ∃ off xs, pwOf all r.E k = some (b, off, xs) := h

include hck
/-- what a step leaves alone -/
theorem lex_heap {k : Nat} (hkl : k < all.length) : (∀ b, r.M (k + 1) ≤ b → (r.H (k + 1)).find b = (r.H k).find b) ∧ (cls all r.E k ≤ 3 → ∀ b, b < r.M k → (r.H (k + 1)).find b = stepB (pwOf all r.E) k b ((r.H k).find b)) ∧
    (cls all r.E k ≤ 4 → ∀ b, b < r.M k → b < m0 → (r.H (k + 1)).find b = stepB (pwOf all r.E) k b ((r.H k).find b)) := by
  cases lex_at lex hkl with
  | quiet hc hm hh hi hws hqs hss =>
    rw [hh]
    exact ⟨fun _ _ => rfl, fun _ b _ => (stepB_not (no_hit (by omega))).symm, fun _ b _ _ => (stepB_not (no_hit (by omega))).symm⟩
  | load hc o' hk' hld hok h1' n1' he hq hm hh hi hws hqs hss =>
    rw [hh]
    exact ⟨fun _ _ => rfl, fun _ b _ => (stepB_not (no_hit (by omega))).symm, fun _ b _ _ => (stepB_not (no_hit (by omega))).symm⟩
  | loud hc o' hk' hok he hle hi hws hqs hss =>
    have kp := evOp_keeps hck he
    refine ⟨kp.hi, fun h3 b hb => ?_, fun h4 b hb hb0 => ?_⟩
    · rw [stepB_not (no_hit (by omega))]
      refine kp.lo b hb ?_
      show b < (if cls all r.E k = 5 then c.lo else if cls all r.E k = 4 then m0 else r.M k)
      rw [if_neg (by omega), if_neg (by omega)]
      exact hb
    · rw [stepB_not (no_hit (by omega))]
      refine kp.lo b hb ?_
      show b < (if cls all r.E k = 5 then c.lo else if cls all r.E k = 4 then m0 else r.M k)
      rw [if_neg (by omega)]
      split
      · exact hb0
      · exact hb
  | store hc o hk b' off xs hpw hat hok hnl he hm hi hws hqs hss =>
    have s := lex_store lex hkl hpw
    obtain ⟨cs, hlk, hlen, hH⟩ := s.mem
    obtain ⟨_, hlt, _, hLIM⟩ := may_some s.may
    have key : ∀ b, (r.H (k + 1)).find b = stepB (pwOf all r.E) k b ((r.H k).find b) := by
      intro b
      rw [hH, find_hput hLIM]
      by_cases e : b = b'
      · subst e
        rw [if_pos rfl, stepB_hit hpw, (look_find.1 hlk).2, wobj, if_pos hlen]
      · rw [if_neg e, stepB_not]
        rintro ⟨o2, xs2, h2⟩
        rw [hpw] at h2
        simp only [Option.some.injEq, Prod.mk.injEq] at h2
        exact e h2.1.symm
    refine ⟨fun b hb => ?_, fun _ b _ => key b, fun _ b _ _ => key b⟩
    rw [hH, find_hput hLIM, if_neg (by omega)]

theorem lex_hi : ∀ k, k ≤ all.length → ∀ b, r.M k ≤ b → (r.H k).find b = (r.H 0).find b := by
  intro k
  induction k with
  | zero => intro _ b _; rfl
  | succ k ih =>
    intro hk b hb
    rw [(lex_heap lex hck (by omega)).1 b hb]
    exact ih (by omega) b (Nat.le_trans (lex_mono lex (Nat.le_succ k) hk) hb)

theorem lex_seg {p : Nat} : ∀ n, p + n ≤ all.length → (∀ i, p ≤ i → i < p + n → cls all r.E i ≤ 3) → ∀ b, b < r.M p → (r.H (p + n)).find b = fw (pwOf all r.E) (fun _ => true) b p n ((r.H p).find b) := by
  intro n
  induction n with
  | zero => intro _ _ b _; rfl
  | succ n ih =>
    intro h2 h3 b hb
    rw [fw, if_pos rfl, ← ih (by omega) (fun i h4 h5 => h3 i h4 (by omega)) b hb]
    exact (lex_heap lex hck (by omega : p + n < all.length)).2.1 (h3 _ (by omega) (by omega)) b (Nat.lt_of_lt_of_le hb (lex_mono lex (by omega) (by omega)))
theorem lex_segOld (h0 : r.M 0 = m0) {p : Nat} : ∀ n, p + n ≤ all.length → (∀ i, p ≤ i → i < p + n → cls all r.E i ≤ 4) → ∀ b, b < m0 → (r.H (p + n)).find b = fw (pwOf all r.E) (fun _ => true) b p n ((r.H p).find b) := by
  intro n
  induction n with
  | zero => intro _ _ b _; rfl
  | succ n ih =>
    intro h2 h3 b hb
    rw [fw, if_pos rfl, ← ih (by omega) (fun i h4 h5 => h3 i h4 (by omega)) b hb]
    exact (lex_heap lex hck (by omega : p + n < all.length)).2.2 (h3 _ (by omega) (by omega)) b (Nat.lt_of_lt_of_le (by rw [h0]; exact hb) (lex_mono lex (Nat.zero_le _) (by omega))) hb
omit hck lex in
theorem lex_locate {p b : Nat} : ∀ k, p ≤ k → k ≤ all.length → r.M p ≤ b → b < r.M k → ∃ i, p ≤ i ∧ i < k ∧ r.M i ≤ b ∧ b < r.M (i + 1) := by
  intro k
  induction k with
  | zero => intro h1 _ h3 h4; have : p = 0 := by omega
            subst this; omega
  | succ k ih =>
    intro h1 h2 h3 h4
    rcases Nat.lt_or_ge k p with h | h
    · have : p = k + 1 := by omega
      subst this; omega
    · rcases Nat.lt_or_ge b (r.M k) with h5 | h5
      · obtain ⟨i, q1, q2, q3⟩ := ih h (by omega) h3 h5
        exact ⟨i, q1, by omega, q3⟩
      · exact ⟨k, h, by omega, h5, h4⟩
omit hck in
/-- only what is loud makes names -/
theorem lex_names {i b : Nat} (hi : i < all.length) (h1 : r.M i ≤ b) (h2 : b < r.M (i + 1)) : 3 ≤ cls all r.E i := by
  cases lex_at lex hi with
  | quiet hc hm hh hi hws hqs hss => omega
  | store hc o hk b' off xs hpw hat hok hnl he hm hi hws hqs hss => omega
  | load hc o' hk' hld hok h1' n1' he hq hm hh hi hws hqs hss => omega
  | loud hc o' hk' hok he hle hi hws hqs hss => exact hc

end
end Go.Proofs.YtpbnpbmiijgeiaaGreatDoor.Ev
