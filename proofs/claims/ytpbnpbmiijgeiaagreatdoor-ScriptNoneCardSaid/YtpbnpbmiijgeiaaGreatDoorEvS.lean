/- An evaluator of the program's code, nineteenth part: regions that draw their order: who is ahead of whom, and the evaluation in the lexical order. No condition. -/
import Derived.Test.YtpbnpbmiijgeiaaGreatDoorEvR
namespace Go.Proofs.YtpbnpbmiijgeiaaGreatDoor.Ev
open Go Go.RowKit

theorem maskOf_bit (acc : List Nat) (j : Nat) : ∀ (l : List Edge) (s : Nat), Nat.testBit (l.foldl (fun s e => bif bindsE e then s ||| 2 ^ e.on ||| acc.getD e.on 0 else s) s) j = true ↔
    Nat.testBit s j = true ∨ ∃ e ∈ l, bindsE e = true ∧ (e.on = j ∨ Nat.testBit (acc.getD e.on 0) j = true)
  | [], s => by simp
  | e :: l, s => by
    rw [List.foldl_cons, maskOf_bit acc j l]
    cases hb : bindsE e with
    | false => simp [hb]
    | true =>
      simp only [cond_true, Nat.testBit_or, Nat.testBit_two_pow, Bool.or_eq_true, decide_eq_true_eq, List.mem_cons, exists_eq_or_imp, hb, true_and]
      constructor
      · rintro (((h | h) | h) | h)
        · exact .inl h
        · exact .inr (.inl (.inl h))
        · exact .inr (.inl (.inr h))
        · exact .inr (.inr h)
      · rintro (h | (h | h) | h)
        · exact .inl (.inl (.inl h))
        · exact .inl (.inl (.inr h))
        · exact .inl (.inr h)
        · exact .inr h

theorem masks_spec : ∀ (l : List Oper) (acc : List Nat), ∃ r, masks l acc = acc ++ r ∧ r.length = l.length ∧ ∀ (j : Nat) o, l[j]? = some o → r[j]? = some (maskOf (acc ++ r.take j) o.after.toList)
  | [], acc => ⟨[], by simp [masks], rfl, fun j o h => by simp at h⟩
  | o :: l, acc => by
    obtain ⟨r, h1, h2, h3⟩ := masks_spec l (acc ++ [maskOf acc o.after.toList])
    refine ⟨maskOf acc o.after.toList :: r, by rw [masks, h1]; simp, by simp [h2], fun j o' hj => ?_⟩
    cases j with
    | zero => simp at hj; simp [hj]
    | succ j =>
      simp at hj
      have := h3 j o' hj
      simpa using this

/-- who is ahead of k -/
def ahead (ms : List Nat) (k j : Nat) : Prop := Nat.testBit (ms.getD k 0) j = true

theorem ahead_edge {all : List Oper} {k j : Nat} {o : Oper} (hk : all[k]? = some o) (he : ∀ e ∈ o.after.toList, bindsE e = true → e.on + 1 ≤ k) (h : ahead (masks all []) k j) :
    ∃ e ∈ o.after.toList, bindsE e = true ∧ (e.on = j ∨ ahead (masks all []) e.on j) := by
  obtain ⟨r, h1, h2, h3⟩ := masks_spec all []
  rw [List.nil_append] at h1
  unfold ahead at h ⊢
  rw [h1] at h ⊢
  have hr := h3 k o hk
  rw [List.getD_eq_getElem?_getD, hr, Option.getD_some] at h
  unfold maskOf at h
  rcases (maskOf_bit _ j _ 0).1 h with h0 | ⟨e, hm, hb, hh⟩
  · simp at h0
  · refine ⟨e, hm, hb, hh.imp id fun h => ?_⟩
    have hlt := he e hm hb
    rwa [List.nil_append, List.getD_eq_getElem?_getD, List.getElem?_take_of_lt (by omega), ← List.getD_eq_getElem?_getD] at h

/-- what okDraw says -/
structure OkD (all : List Oper) : Prop where
  back : ∀ (k : Nat) (o : Oper), all[k]? = some o → ∀ e ∈ o.after.toList, bindsE e = true → e.on + 1 ≤ k
  reads : ∀ (k : Nat) (o : Oper) (i : Nat) (x : Oper) t, all[k]? = some o → all[i]? = some x → i ≠ k → x.dst = some t → (looks all o).contains t = true → tied (masks all []) i k = true
  writes : ∀ (k : Nat) (o : Oper) (i : Nat) (x : Oper) t, all[k]? = some o → all[i]? = some x → i ≠ k → x.dst = some t → o.dst = some t → tied (masks all []) i k = true
  sel : ∀ (k : Nat) (o : Oper) cs b, all[k]? = some o → o.op ≠ Op.select cs b

theorem mem_idx {all : List Oper} {k : Nat} {o : Oper} (h : all[k]? = some o) : (o, k) ∈ idx all := by
  unfold idx
  rw [List.mem_iff_getElem?]
  exact ⟨k, by simp [h]⟩

theorem okDraw_some {all : List Oper} (h : okDraw all (masks all []) = true) : OkD all := by
  unfold okDraw at h
  have hall := List.all_eq_true.1 h
  have hk : ∀ k o, all[k]? = some o → ((∀ e ∈ o.after.toList, bindsE e = true → e.on + 1 ≤ k) ∧ (∀ cs b, o.op ≠ .select cs b)) ∧ ∀ i x, all[i]? = some x → i ≠ k → ∀ t, x.dst = some t → ((looks all o).contains t = true → tied (masks all []) i k = true) ∧ (o.dst = some t → tied (masks all []) i k = true) := by
    intro k o hk
    have h1 := hall (o, k) (mem_idx hk)
    simp only [Bool.and_eq_true] at h1
    obtain ⟨⟨h1, h2⟩, h3⟩ := h1
    refine ⟨⟨fun e he hb => ?_, fun cs b e => ?_⟩, fun i x hi hne t ht => ?_⟩
    · have := List.all_eq_true.1 h1 e he
      rw [hb] at this
      simpa using ble.1 this
    · rw [e] at h2; simp at h2
    · have := List.all_eq_true.1 h3 (x, i) (mem_idx hi)
      rw [beqF.2 hne] at this
      simp only [Bool.false_or, ht, Bool.and_eq_true, Bool.or_eq_true, Bool.not_eq_true'] at this
      refine ⟨fun hc => this.1.resolve_left (by rw [hc]; simp), fun hd => this.2.resolve_left (by rw [hd]; simp)⟩
  exact ⟨fun k o h => (hk k o h).1.1, fun k o i x t h1 h2 h3 h4 h5 => ((hk k o h1).2 i x h2 h3 t h4).1 h5, fun k o i x t h1 h2 h3 h4 h5 => ((hk k o h1).2 i x h2 h3 t h4).2 h5, fun k o cs b h => (hk k o h).1.2 cs b⟩

theorem ahead_lt {all : List Oper} (ok : OkD all) : ∀ (k j : Nat), ahead (masks all []) k j → j < k := by
  intro k
  induction k using Nat.strongRecOn with
  | _ k ih =>
    intro j h
    cases ho : all[k]? with
    | none =>
      exfalso
      obtain ⟨r, h1, h2, h3⟩ := masks_spec all []
      unfold ahead at h
      rw [h1, List.nil_append, List.getD_eq_getElem?_getD, List.getElem?_eq_none (by rw [h2]; exact List.getElem?_eq_none_iff.1 ho)] at h
      simp at h
    | some o =>
      obtain ⟨e, hm, hb, hh⟩ := ahead_edge ho (ok.back k o ho) h
      have hlt := ok.back k o ho e hm hb
      rcases hh with hh | hh
      · omega
      · have := ih e.on (by omega) j hh; omega

theorem tied_lt {all : List Oper} (ok : OkD all) {i k : Nat} (h : tied (masks all []) i k = true) (hlt : i < k) : ahead (masks all []) k i := by
  unfold tied at h
  simp only [Bool.or_eq_true] at h
  rcases h with h | h
  · exact h
  · have := ahead_lt ok i k h; omega
theorem tied_gt {all : List Oper} (ok : OkD all) {i k : Nat} (h : tied (masks all []) i k = true) (hlt : k < i) : ahead (masks all []) i k := by
  unfold tied at h
  simp only [Bool.or_eq_true] at h
  rcases h with h | h
  · have := ahead_lt ok k i h; omega
  · exact h

/-- one step of the evaluation in the lexical order -/
inductive Stp (call : CallT) (P : Program) (c : Ctx) (nt : Nat) (all : List Oper) (ms : List Nat) (m0 k : Nat) (o : Oper) (env env' : Env) (h h' : Mem) (m m' : Nat) (r : Value)
    (iv iv' : List (Nat × Nat × Nat)) (ws ws' : List (Nat × Nat × Nat × Nat)) (qs qs' : List (Nat × Nat)) (ss ss' : List Nat) : Prop where
  | skip (hw : wantedE all env o = false) (hr : r = undef) (hh : h' = h) (hm : m' = m) (hi : iv' = iv) (hws : ws' = ws) (hqs : qs' = qs) (hss : ss' = ss) (hp : putE nt env o.dst r = some env')
  | pure (hw : wantedE all env o = true) (hpo : pureO o.op = true) (h1 : Mem) (he : evOp call P ⟨0, []⟩ env .leaf 0 o.op = some (r, h1, 0)) (hh : h' = h) (hm : m' = m) (hi : iv' = iv) (hws : ws' = ws) (hqs : qs' = qs) (hss : ss' = ss) (hp : putE nt env o.dst r = some env')
  | store (hw : wantedE all env o = true) (hpo : pureO o.op = false) (hst : isStore o.op = true) (hal : alone all ms k = false) (b off : Nat) (xs : List Value) (hat : storeAt env o.op = some (b, off, xs))
      (hok : okStore (ms.getD k 0) m0 b off xs.length ws qs = true) (hnl : noLink c h b = true) (he : evOp call P c env h m o.op = some (r, h', m)) (hm : m' = m) (hi : iv' = iv) (hws : ws' = (k, b, off, xs.length) :: ws) (hqs : qs' = qs) (hss : ss' = ss) (hp : putE nt env o.dst r = some env')
  | load (hw : wantedE all env o = true) (hpo : pureO o.op = false) (hst : isStore o.op = false) (hld : isLoad o.op = true) (hal : alone all ms k = false) (hok : okLoad (ms.getD k 0) m0 (loadAt env o.op) ss = true) (h1 : Mem) (n1 : Nat)
      (he : evOp call P ⟨m, others (ms.getD k 0) iv ++ (bansW (ms.getD k 0) ws ++ c.ban)⟩ env h m o.op = some (r, h1, n1)) (hh : h' = h) (hm : m' = m) (hi : iv' = iv) (hws : ws' = ws) (hqs : qs' = (k, loadAt env o.op) :: qs) (hss : ss' = ss) (hp : putE nt env o.dst r = some env')
  | loud (hw : wantedE all env o = true) (hpo : pureO o.op = false) (hcl : alone all ms k = true ∨ (isStore o.op = false ∧ isLoad o.op = false)) (hok : alone all ms k = true ∨ semi all ms k = false ∨ okSemi (ms.getD k 0) m0 qs = true)
      (he : evOp call P (cxOf c all ms m0 k m iv ws) env h m o.op = some (r, h', m')) (hle : m ≤ m') (hi : iv' = (k, m, m') :: iv) (hws : ws' = ws) (hqs : qs' = (k, 0) :: qs) (hss : ss' = bif !(alone all ms k) && semi all ms k then k :: ss else ss) (hp : putE nt env o.dst r = some env')

/-- the evaluation's course -/
structure Run where
  E : Nat → Env
  H : Nat → Mem
  M : Nat → Nat
  R : Nat → Value
  I : Nat → List (Nat × Nat × Nat)
  W : Nat → List (Nat × Nat × Nat × Nat)
  Q : Nat → List (Nat × Nat)
  S : Nat → List Nat

structure Lex (call : CallT) (P : Program) (c : Ctx) (nt : Nat) (all : List Oper) (ms : List Nat) (m0 lo hi : Nat) (r : Run) : Prop where
  step : ∀ k o, lo ≤ k → k < hi → all[k]? = some o → Stp call P c nt all ms m0 k o (r.E k) (r.E (k + 1)) (r.H k) (r.H (k + 1)) (r.M k) (r.M (k + 1)) (r.R k) (r.I k) (r.I (k + 1)) (r.W k) (r.W (k + 1)) (r.Q k) (r.Q (k + 1)) (r.S k) (r.S (k + 1))

theorem evDraw_lex {call : CallT} {P : Program} {c : Ctx} {nt : Nat} {all : List Oper} {ms : List Nat} {m0 : Nat} : ∀ (rest : List Oper) (k : Nat) (iv : List (Nat × Nat × Nat)) (ws : List (Nat × Nat × Nat × Nat)) (qs : List (Nat × Nat)) (ss : List Nat) (env : Env) (h : Mem) (n : Nat) (env' : Env) (h' : Mem) (n' : Nat),
    (∀ j, rest[j]? = all[k + j]?) → evDraw call P c nt all ms m0 rest k iv ws qs ss env h n = some (env', h', n') →
    ∃ r : Run, Lex call P c nt all ms m0 k (k + rest.length) r ∧ r.E k = env ∧ r.H k = h ∧ r.M k = n ∧ r.I k = iv ∧ r.W k = ws ∧ r.Q k = qs ∧ r.S k = ss ∧ r.E (k + rest.length) = env' ∧ r.H (k + rest.length) = h' ∧ r.M (k + rest.length) = n'
  | [], k, iv, ws, qs, ss, env, h, n, env', h', n', _, he => by
    simp only [evDraw, Option.some.injEq, Prod.mk.injEq] at he
    obtain ⟨rfl, rfl, rfl⟩ := he
    exact ⟨⟨fun _ => env, fun _ => h, fun _ => n, fun _ => undef, fun _ => iv, fun _ => ws, fun _ => qs, fun _ => ss⟩, ⟨fun k' o h1 h2 _ => by simp at h2; omega⟩, rfl, rfl, rfl, rfl, rfl, rfl, rfl, rfl, rfl, rfl⟩
  | o :: rest, k, iv, ws, qs, ss, env, h, n, env', h', n', hidx, he => by
    have h0 : all[k]? = some o := by simpa using (hidx 0).symm
    have hidx' : ∀ j, rest[j]? = all[k + 1 + j]? := fun j => by
      have := hidx (j + 1)
      rw [List.getElem?_cons_succ] at this
      rw [this]; congr 1; omega
    have glue : ∀ (env1 : Env) (h1 : Mem) (n1 : Nat) (iv1 : List (Nat × Nat × Nat)) (ws1 : List (Nat × Nat × Nat × Nat)) (qs1 : List (Nat × Nat)) (ss1 : List Nat) (v : Value), Stp call P c nt all ms m0 k o env env1 h h1 n n1 v iv iv1 ws ws1 qs qs1 ss ss1 → evDraw call P c nt all ms m0 rest (k + 1) iv1 ws1 qs1 ss1 env1 h1 n1 = some (env', h', n') →
        ∃ r : Run, Lex call P c nt all ms m0 k (k + (o :: rest).length) r ∧ r.E k = env ∧ r.H k = h ∧ r.M k = n ∧ r.I k = iv ∧ r.W k = ws ∧ r.Q k = qs ∧ r.S k = ss ∧ r.E (k + (o :: rest).length) = env' ∧ r.H (k + (o :: rest).length) = h' ∧ r.M (k + (o :: rest).length) = n' := by
      intro env1 h1 n1 iv1 ws1 qs1 ss1 v hs hev
      obtain ⟨r, hl, e1, e2, e3, e4, e5, e6, e7, e8, e9, e10⟩ := evDraw_lex rest (k + 1) iv1 ws1 qs1 ss1 env1 h1 n1 env' h' n' hidx' hev
      have hlen : k + (o :: rest).length = k + 1 + rest.length := by simp; omega
      have hgt : ¬ (k + 1 + rest.length ≤ k) := by omega
      refine ⟨⟨fun i => if i ≤ k then env else r.E i, fun i => if i ≤ k then h else r.H i, fun i => if i ≤ k then n else r.M i, fun i => if i ≤ k then v else r.R i, fun i => if i ≤ k then iv else r.I i, fun i => if i ≤ k then ws else r.W i, fun i => if i ≤ k then qs else r.Q i, fun i => if i ≤ k then ss else r.S i⟩,
        ⟨?_⟩, by simp, by simp, by simp, by simp, by simp, by simp, by simp, ?_, ?_, ?_⟩
      · intro k' o' g1 g2 g3
        by_cases hk : k' = k
        · subst hk
          rw [h0] at g3; cases g3
          have hn : ¬ (k' + 1 ≤ k') := by omega
          simpa [hn, e1, e2, e3, e4, e5, e6, e7] using hs
        · have h1' : ¬ (k' ≤ k) := by omega
          have h2' : ¬ (k' + 1 ≤ k) := by omega
          simpa [h1', h2'] using hl.step k' o' (by omega) (by rw [hlen] at g2; exact g2) g3
      · simp only [hlen, if_neg hgt, e8]
      · simp only [hlen, if_neg hgt, e9]
      · simp only [hlen, if_neg hgt, e10]
    rw [evDraw] at he
    cases hw : wantedE all env o with
    | false =>
      simp only [hw, cond_false] at he
      split at he
      · cases he
      · rename_i env1 hput
        exact glue env1 h n iv ws qs ss undef (.skip hw rfl rfl rfl rfl rfl rfl rfl hput) he
    | true =>
      simp only [hw, cond_true] at he
      cases hpo : pureO o.op with
      | true =>
        simp only [hpo, cond_true] at he
        split at he
        · cases he
        · rename_i v h1 z hop
          cases hz : Nat.beq z 0 with
          | false => simp [hz] at he
          | true =>
          simp only [hz, cond_true] at he
          obtain rfl := Tri.beq_true.1 hz
          split at he
          · cases he
          · rename_i env1 hput
            exact glue env1 h n iv ws qs ss v (.pure hw hpo h1 hop rfl rfl rfl rfl rfl rfl hput) he
      | false =>
        simp only [hpo, cond_false] at he
        cases hst : (isStore o.op && !(alone all ms k)) with
        | true =>
          simp only [hst, cond_true] at he
          simp only [Bool.and_eq_true, Bool.not_eq_true'] at hst
          split at he
          · cases he
          · rename_i b off xs hat
            cases hok : (okStore (ms.getD k 0) m0 b off xs.length ws qs && noLink c h b) with
            | false => rw [hok] at he; cases he
            | true =>
            simp only [hok, cond_true] at he
            simp only [Bool.and_eq_true] at hok
            split at he
            · cases he
            · rename_i v h1 n1 hop
              cases hz : Nat.beq n n1 with
              | false => simp [hz] at he
              | true =>
              simp only [hz, cond_true] at he
              obtain rfl := Tri.beq_true.1 hz
              split at he
              · cases he
              · rename_i env1 hput
                exact glue env1 h1 n iv _ qs ss v (.store hw hpo hst.1 hst.2 b off xs hat hok.1 hok.2 hop rfl rfl rfl rfl rfl hput) he
        | false =>
          simp only [hst, cond_false] at he
          cases hld : (isLoad o.op && !(alone all ms k)) with
          | true =>
            simp only [hld, cond_true] at he
            simp only [Bool.and_eq_true, Bool.not_eq_true'] at hld
            rw [hld.2] at hst
            cases hok : okLoad (ms.getD k 0) m0 (loadAt env o.op) ss with
            | false => rw [hok] at he; cases he
            | true =>
            simp only [hok, cond_true] at he
            split at he
            · cases he
            · rename_i v h1 n1 hop
              split at he
              · cases he
              · rename_i env1 hput
                exact glue env1 h n iv ws _ ss v (.load hw hpo (by simpa using hst) hld.1 hld.2 hok h1 n1 hop rfl rfl rfl rfl rfl rfl hput) he
          | false =>
            simp only [hld, cond_false] at he
            have hcl : alone all ms k = true ∨ (isStore o.op = false ∧ isLoad o.op = false) := by
              cases hal : alone all ms k with
              | true => exact .inl rfl
              | false => rw [hal] at hst hld; exact .inr ⟨by simpa using hst, by simpa using hld⟩
            cases hok : (alone all ms k || (!(semi all ms k) || okSemi (ms.getD k 0) m0 qs)) with
            | false => rw [hok] at he; cases he
            | true =>
            simp only [hok, cond_true] at he
            split at he
            · cases he
            · rename_i v h1 n1 hop
              cases hb : Nat.ble n n1 with
              | false => simp [hb] at he
              | true =>
              simp only [hb, cond_true] at he
              split at he
              · cases he
              · rename_i env1 hput
                refine glue env1 h1 n1 _ ws _ _ v (.loud hw hpo hcl ?_ hop (ble.1 hb) rfl rfl rfl rfl hput) he
                simp only [Bool.or_eq_true, Bool.not_eq_true'] at hok
                exact hok

end Go.Proofs.YtpbnpbmiijgeiaaGreatDoor.Ev
