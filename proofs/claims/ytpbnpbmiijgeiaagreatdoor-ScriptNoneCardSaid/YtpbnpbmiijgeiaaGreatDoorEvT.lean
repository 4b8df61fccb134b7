/- An evaluator of the program's code, twentieth part: regions that draw their order: the evaluation in the lexical order serves every order. No condition. -/
import Derived.Test.YtpbnpbmiijgeiaaGreatDoorEvS
namespace Go.Proofs.YtpbnpbmiijgeiaaGreatDoor.Ev
open Go Go.RowKit

theorem opvs_congr {env env' : Env} : ∀ (l : List Operand), (∀ x ∈ l, opv env x = opv env' x) → opvs env l = opvs env' l
  | [], _ => rfl
  | x :: r, h => by rw [opvs, opvs, h x (by simp), opvs_congr r (fun y hy => h y (by simp [hy]))]
theorem aParts_congr {env env' : Env} : ∀ (l : List (Nat × Operand)), (∀ x ∈ l, opv env x.2 = opv env' x.2) → aParts env l = aParts env' l
  | [], _ => rfl
  | (i, x) :: r, h => by rw [aParts, aParts, h (i, x) (by simp), aParts_congr r (fun y hy => h y (by simp [hy]))]

set_option maxHeartbeats 1000000 in
theorem evOp_congr {call : CallT} {P : Program} {c : Ctx} {env env' : Env} {h : Mem} {n : Nat} (o : Op) (hx : ∀ x ∈ o.operands, opv env x = opv env' x) : evOp call P c env h n o = evOp call P c env' h n o := by
  have opt' : ∀ (z : Option Operand), (∀ x ∈ z, opv env x = opv env' x) → opt env z = opt env' z := by
    intro z hz
    cases z with
    | none => rfl
    | some x => simp only [opt]; rw [hz x rfl]
  cases o <;> simp only [Op.operands] at hx <;> simp only [evOp]
  case build t ps => rw [aParts_congr ps.toList (fun x hm => hx x.2 (by simp; exact ⟨x.1, by simpa using hm⟩))]
  case buildSlice t n ps => rw [aParts_congr ps.toList (fun x hm => hx x.2 (by simp; exact ⟨x.1, by simpa using hm⟩))]
  case makeFunc fn first captured =>
    rw [opvs_congr first.toList (fun x hm => hx x (by simp at hm ⊢; exact .inl hm)), opvs_congr captured.toList (fun x hm => hx x (by simp at hm ⊢; exact .inr hm))]
  case call k =>
    unfold aCall
    rw [opvs_congr k.args.toList (fun x hm => hx x (by simp [Call.operands] at hm ⊢; exact .inr hm))]
    cases hc : k.callee with
    | value f => have := hx f (by simp [Call.operands, hc]); simp only [this]
    | invoke r m => rfl
    | builtin b => rfl
  case slice t x lo hi mx =>
    rw [hx x (by simp), opt' lo (fun y hy => hx y (by simp; exact .inr (.inl hy))), opt' hi (fun y hy => hx y (by simp; exact .inr (.inr (.inl hy)))), opt' mx (fun y hy => hx y (by simp; exact .inr (.inr (.inr hy))))]
  case makeMap t r => cases r <;> rfl
  all_goals (first | rfl | (simp_all; done))

noncomputable def valX (env : Env) (t : Nat) : Value := (env.find t).getD undef

theorem opv_valX {env env' : Env} {x : Operand} (h : ∀ t, x = .tmp t → valX env t = valX env' t) : opv env x = opv env' x := by
  cases x with
  | tmp t => simp only [opv]; exact congrArg some (h t rfl)
  | _ => rfl

theorem wantedE_congr {all : List Oper} {env env' : Env} {o : Oper} (h : ∀ t, (looks all o).contains t = true → valX env t = valX env' t) : wantedE all env o = wantedE all env' o := by
  unfold wantedE
  cases hg : o.guard with
  | none => rfl
  | some g =>
    obtain ⟨j, want⟩ := g
    simp only []
    cases ht : (all[j]?).bind (·.dst) with
    | none => rfl
    | some t =>
      have := h t (by unfold looks; rw [List.contains_iff_mem]; refine List.mem_append_right _ ?_; simp [hg, ht])
      unfold valX at this
      simp only [this]

theorem looks_operand {all : List Oper} {o : Oper} {t : Tmp} (h : Operand.tmp t ∈ o.op.operands) : (looks all o).contains t = true := by
  unfold looks
  rw [List.contains_iff_mem]
  refine List.mem_append_left _ (List.mem_filterMap.2 ⟨.tmp t, by simpa using h, rfl⟩)

/-- a slot's new value -/
noncomputable def putR (env : Env) (d : Option Tmp) (v : Value) : Env :=
  match d with
  | none => env
  | some t => env.put 32 t (some v)

theorem putE_some {nt : Nat} {env env' : Env} {d : Option Tmp} {v : Value} (h : putE nt env d v = some env') : env' = putR env d v ∧ ∀ t, d = some t → t + 1 ≤ nt ∧ nt ≤ 1000000 := by
  unfold putE at h
  unfold putR
  cases d with
  | none => simp at h; exact ⟨h.symm, fun t e => by cases e⟩
  | some t =>
    simp only [] at h
    cases hb : (Nat.ble (t + 1) nt && Nat.ble nt 1000000) with
    | false => simp [hb] at h
    | true =>
    simp only [hb, cond_true, Option.some.injEq] at h
    simp only [Bool.and_eq_true] at hb
    exact ⟨h.symm, fun t' e => by cases e; exact ⟨ble.1 hb.1, ble.1 hb.2⟩⟩
theorem putE_of {nt : Nat} {env : Env} {d : Option Tmp} {v : Value} (h : ∀ t, d = some t → t + 1 ≤ nt ∧ nt ≤ 1000000) : putE nt env d v = some (putR env d v) := by
  unfold putE putR
  cases d with
  | none => rfl
  | some t =>
    obtain ⟨h1, h2⟩ := h t rfl
    simp [ble.2 h1, ble.2 h2]
theorem valX_putR {nt : Nat} {env : Env} {d : Option Tmp} {v : Value} (h : ∀ t, d = some t → t + 1 ≤ nt ∧ nt ≤ 1000000) (t : Nat) : valX (putR env d v) t = if d = some t then v else valX env t := by
  unfold putR valX
  cases d with
  | none => simp
  | some s =>
    obtain ⟨h1, h2⟩ := h s rfl
    have h1' : (s : Nat) + 1 ≤ nt := h1
    simp only []
    have h3 : (s : Nat) + 1 < 2 ^ 32 := Nat.lt_of_le_of_lt (Nat.le_trans h1 h2) (by decide)
    rw [Tri.find_put 32 env s (some v) t h3]
    by_cases e : t = s
    · subst e; simp
    · have : ¬ (s = t) := fun q => e q.symm
      simp [e, this]

theorem inBan_append (l r : List (Nat × Nat)) (b : Nat) : inBan (l ++ r) b = (inBan l b || inBan r b) := by
  induction l with
  | nil => simp [inBan]
  | cons x l ih =>
    obtain ⟨i, j⟩ := x
    rw [List.cons_append, inBan, inBan, ih]
    cases Nat.ble i b <;> cases Nat.ble (b + 1) j <;> simp

theorem others_ban {m : Nat} : ∀ {iv : List (Nat × Nat × Nat)} {i x y b : Nat}, (i, x, y) ∈ iv → Nat.testBit m i = false → x ≤ b → b < y → inBan (others m iv) b = true
  | [], _, _, _, _, h, _, _, _ => by cases h
  | (i', x', y') :: r, i, x, y, b, h, hm, h1, h2 => by
    rw [others]
    rcases List.mem_cons.1 h with h | h
    · simp only [Prod.mk.injEq] at h
      obtain ⟨rfl, rfl, rfl⟩ := h
      have : Nat.beq x y = false := beqF.2 (by omega)
      simp only [hm, this, Bool.or_false, cond_false]
      rw [inBan, ble.2 h1, ble.2 (show b + 1 ≤ y by omega)]
      rfl
    · have := others_ban h hm h1 h2
      cases hc : (Nat.testBit m i' || Nat.beq x' y') with
      | true => simpa using this
      | false =>
        simp only [cond_false]
        rw [inBan, this]
        cases Nat.ble x' b <;> cases Nat.ble (b + 1) y' <;> rfl
theorem others_only {m : Nat} : ∀ {iv : List (Nat × Nat × Nat)} {b : Nat}, inBan (others m iv) b = true → ∃ i x y, (i, x, y) ∈ iv ∧ Nat.testBit m i = false ∧ x ≤ b ∧ b < y
  | [], _, h => by simp [others, inBan] at h
  | (i', x', y') :: r, b, h => by
    rw [others] at h
    cases hc : (Nat.testBit m i' || Nat.beq x' y') with
    | true =>
      simp only [hc, cond_true] at h
      obtain ⟨i, x, y, h1, h2⟩ := others_only h
      exact ⟨i, x, y, List.mem_cons_of_mem _ h1, h2⟩
    | false =>
      simp only [hc, cond_false] at h
      simp only [Bool.or_eq_false_iff] at hc
      rw [inBan] at h
      by_cases hin : x' ≤ b ∧ b < y'
      · exact ⟨i', x', y', List.mem_cons_self .., hc.1, hin.1, hin.2⟩
      · have h' : inBan (others m r) b = true := by
          cases e1 : Nat.ble x' b with
          | false => simpa [e1] using h
          | true =>
            cases e2 : Nat.ble (b + 1) y' with
            | false => simpa [e1, e2] using h
            | true => exact absurd ⟨ble.1 e1, by have := ble.1 e2; omega⟩ hin
        obtain ⟨i, x, y, h1, h2⟩ := others_only h'
        exact ⟨i, x, y, List.mem_cons_of_mem _ h1, h2⟩

/-- the slots behind what has been listed of the first k operations -/
noncomputable def EL (all : List Oper) (E0 : Env) (R : Nat → Value) (L : Nat → Bool) : Nat → Env
  | 0 => E0
  | k + 1 => bif L k then putR (EL all E0 R L k) ((all[k]?).bind (·.dst)) (R k) else EL all E0 R L k

section
variable {call : CallT} {P : Program} {c : Ctx} {nt m0 : Nat} {all : List Oper} {r : Run}

/-- is operation k one that touches memory? -/
def Loud (all : List Oper) (E : Nat → Env) (k : Nat) : Prop := ∃ o, all[k]? = some o ∧ wantedE all (E k) o = true ∧ pureO o.op = false

variable (lex : Lex call P c nt all (masks all []) m0 0 all.length r)
include lex

theorem lex_put {k : Nat} {o : Oper} (hk : all[k]? = some o) : putE nt (r.E k) o.dst (r.R k) = some (r.E (k + 1)) := by
  have s := lex.step k o (by omega) (List.getElem?_eq_some_iff.1 hk).1 hk
  cases s <;> assumption
theorem lex_le {k : Nat} (hk : k < all.length) : r.M k ≤ r.M (k + 1) := by
  have s := lex.step k all[k] (by omega) hk (by simp [hk])
  cases s <;> omega

theorem lex_mono {i j : Nat} (hij : i ≤ j) (hj : j ≤ all.length) : r.M i ≤ r.M j := by
  induction j with
  | zero => have : i = 0 := by omega
            rw [this]; exact Nat.le_refl _
  | succ j ih =>
    rcases Nat.lt_or_ge j i with h | h
    · have : i = j + 1 := by omega
      rw [this]; exact Nat.le_refl _
    · exact Nat.le_trans (ih h (by omega)) (lex_le lex (by omega : j < all.length))

theorem lex_dst {k : Nat} {o : Oper} (hk : all[k]? = some o) : ∀ t, o.dst = some t → t + 1 ≤ nt ∧ nt ≤ 1000000 :=
  (putE_some (lex_put lex hk)).2

theorem lex_val {k : Nat} {o : Oper} (hk : all[k]? = some o) (t : Nat) : valX (r.E (k + 1)) t = if o.dst = some t then r.R k else valX (r.E k) t := by
  have hs := putE_some (lex_put lex hk)
  rw [hs.1, valX_putR hs.2]

theorem EL_val (L : Nat → Bool) {k : Nat} {o : Oper} (hk : all[k]? = some o) (t : Nat) : valX (EL all (r.E 0) r.R L (k + 1)) t = if L k = true ∧ o.dst = some t then r.R k else valX (EL all (r.E 0) r.R L k) t := by
  rw [EL]
  cases hL : L k with
  | false => simp
  | true =>
    simp only [cond_true, hk, Option.bind_some, true_and]
    exact valX_putR (lex_dst lex hk) t

/-- what operation k looks at is, whatever has been listed, what the lexical order has there -/
theorem EL_reads (ok : OkD all) {L : Nat → Bool} (hcl : ∀ i, i < all.length → L i = true → ∀ j, ahead (masks all []) i j → L j = true) {k : Nat} {o : Oper} (hk : all[k]? = some o) (hL : L k = false)
    (hready : ∀ j, ahead (masks all []) k j → L j = true) {t : Nat} (ht : (looks all o).contains t = true) : valX (EL all (r.E 0) r.R L all.length) t = valX (r.E k) t := by
  have hkl := (List.getElem?_eq_some_iff.1 hk).1
  have key : ∀ m, m ≤ all.length → valX (EL all (r.E 0) r.R L m) t = valX (r.E (min m k)) t := by
    intro m
    induction m with
    | zero => intro _; simp [EL]
    | succ m ih =>
      intro hm
      have hml : m < all.length := by omega
      have hmo : all[m]? = some all[m] := by simp [hml]
      rw [EL_val lex L hmo, ih (by omega)]
      rcases Nat.lt_trichotomy m k with h | h | h
      · rw [show min (m + 1) k = m + 1 by omega, show min m k = m by omega, lex_val lex hmo]
        by_cases hd : (all[m]).dst = some t
        · have := hready m (tied_lt ok (ok.reads k o m _ t hk hmo (by omega) hd ht) h)
          simp [hd, this]
        · simp [hd]
      · subst h
        rw [hL]
        simp
      · rw [show min (m + 1) k = k by omega, show min m k = k by omega]
        by_cases hd : (all[m]).dst = some t
        · have ha := tied_gt ok (ok.reads k o m _ t hk hmo (by omega) hd ht) h
          have : L m = false := by
            cases hLm : L m with
            | false => rfl
            | true => have := hcl m hml hLm k ha; rw [hL] at this; cases this
          simp [this]
        · simp [hd]
  have := key all.length (Nat.le_refl _)
  rwa [show min all.length k = k by omega] at this

/-- the slots behind one more -/
theorem EL_put (ok : OkD all) {L L' : Nat → Bool} (hcl : ∀ i, i < all.length → L i = true → ∀ j, ahead (masks all []) i j → L j = true) {k : Nat} {o : Oper} (hk : all[k]? = some o) (hL : L k = false)
    (hL' : ∀ i, L' i = (L i || decide (i = k))) (t : Nat) : valX (EL all (r.E 0) r.R L' all.length) t = if o.dst = some t then r.R k else valX (EL all (r.E 0) r.R L all.length) t := by
  have hkl := (List.getElem?_eq_some_iff.1 hk).1
  have low : ∀ m, m ≤ k → valX (EL all (r.E 0) r.R L' m) t = valX (EL all (r.E 0) r.R L m) t := by
    intro m
    induction m with
    | zero => intro _; rfl
    | succ m ih =>
      intro hm
      have hmo : all[m]? = some all[m] := by simp [show m < all.length by omega]
      rw [EL_val lex L' hmo, EL_val lex L hmo, ih (by omega), hL', decide_eq_false (by omega), Bool.or_false]
  have high : ∀ m, m ≤ all.length → k < m → valX (EL all (r.E 0) r.R L' m) t = if o.dst = some t then r.R k else valX (EL all (r.E 0) r.R L m) t := by
    intro m
    induction m with
    | zero => intro _ h; omega
    | succ m ih =>
      intro hm hlt
      have hml : m < all.length := by omega
      have hmo : all[m]? = some all[m] := by simp [hml]
      rw [EL_val lex L' hmo, EL_val lex L hmo]
      rcases Nat.lt_trichotomy m k with h | h | h
      · omega
      · subst h
        rw [hk] at hmo
        have hoo : all[m] = o := by simpa using hmo.symm
        rw [low m (Nat.le_refl _), hL', hL, hoo]
        simp
      · rw [ih (by omega) h, hL', decide_eq_false (by omega), Bool.or_false]
        by_cases hd : o.dst = some t
        · simp only [if_pos hd]
          by_cases hd2 : (all[m]).dst = some t
          · have ha := tied_gt ok (ok.writes k o m _ t hk hmo (by omega) hd2 hd) h
            have : L m = false := by
              cases hLm : L m with
              | false => rfl
              | true => have := hcl m hml hLm k ha; rw [hL] at this; cases this
            simp [this]
          · simp [hd2]
        · simp only [if_neg hd]
  exact high all.length (Nat.le_refl _) hkl

theorem EL_full {L : Nat → Bool} (hL : ∀ i, i < all.length → L i = true) (t : Nat) : valX (EL all (r.E 0) r.R L all.length) t = valX (r.E all.length) t := by
  have key : ∀ m, m ≤ all.length → valX (EL all (r.E 0) r.R L m) t = valX (r.E m) t := by
    intro m
    induction m with
    | zero => intro _; rfl
    | succ m ih =>
      intro hm
      have hmo : all[m]? = some all[m] := by simp [show m < all.length by omega]
      rw [EL_val lex L hmo, lex_val lex hmo, ih (by omega), hL m (by omega)]
      simp
  exact key _ (Nat.le_refl _)

end
end Go.Proofs.YtpbnpbmiijgeiaaGreatDoor.Ev
