/- An evaluator of the program's code, twenty-second part: regions, code and calls. No condition. -/
import Derived.Test.YtpbnpbmiijgeiaaGreatDoorEvU
namespace Go.Proofs.YtpbnpbmiijgeiaaGreatDoor.Ev
open Go Go.RowKit

/-- how many have not been listed -/
def cnt (L : Nat → Bool) : Nat → Nat
  | 0 => 0
  | n + 1 => cnt L n + (if L n = true then 0 else 1)
theorem cnt_le (L : Nat → Bool) : ∀ n, cnt L n ≤ n
  | 0 => Nat.le_refl _
  | n + 1 => by rw [cnt]; have := cnt_le L n; split <;> omega
theorem cnt_zero {L : Nat → Bool} : ∀ n, cnt L n = 0 → ∀ i, i < n → L i = true
  | 0, _, i, h => by omega
  | n + 1, h, i, hi => by
    rw [cnt] at h
    by_cases hL : L n = true
    · rw [if_pos hL] at h
      rcases Nat.lt_or_ge i n with h1 | h1
      · exact cnt_zero n (by omega) i h1
      · have : i = n := by omega
        rw [this]; exact hL
    · rw [if_neg hL] at h; omega
theorem cnt_add {L L' : Nat → Bool} {k : Nat} (hL : L k = false) (hL' : ∀ i, L' i = (L i || decide (i = k))) : ∀ n, cnt L' n + (if k < n then 1 else 0) = cnt L n
  | 0 => by simp [cnt]
  | n + 1 => by
    have ih := cnt_add hL hL' n
    rw [cnt, cnt, hL']
    by_cases e : n = k
    · subst e
      rw [if_neg (by omega)] at ih
      simp [hL]; omega
    · rw [decide_eq_false e, Bool.or_false]
      have hiff : (k < n + 1) ↔ (k < n) := by omega
      simp only [hiff]
      omega

section
variable {call : CallT} {P : Program} {c : Ctx} {nt : Nat} {all : List Oper} {m0 : Nat} {r : Run}
  {w₀ : World} {N : Nat} {μ0 : Mu} {T0 : AMem} {d0 : List Deferred}

theorem draw_any (lex : Lex call P c nt all (masks all []) m0 0 all.length r) (hI : r.I 0 = []) (hW : r.W 0 = []) (h0 : r.M 0 = m0) (hck : CallKp call) (hc : CallOK P call) (ok : OkD all) (hv0 : View c (r.H 0) T0) (hf0 : Fresh μ0 T0 (r.M 0) (r.M all.length))
    {Q : Exit → Act → World → Prop} (hQ : ∀ L p μ T a w, (∀ i, i < all.length → L i = true) → Inv c nt m0 all r w₀ N μ0 T0 d0 L p μ T a w → Q .normal a w) :
    ∀ (fuel : Nat) (listed : Array Bool) (p : Nat) (μ : Mu) (T : AMem) (a : Act) (w : World), listed.size = all.length → cnt (fun i => listed.getD i false) all.length ≤ fuel →
      Inv c nt m0 all r w₀ N μ0 T0 d0 (fun i => listed.getD i false) p μ T a w → wpAny P .any all.toArray Q fuel listed a w := by
  have full : ∀ (listed : Array Bool), listed.size = all.length → Region.ready .any all.toArray listed = [] → ∀ i, i < all.length → listed.getD i false = true := by
    intro listed hs hr i
    induction i using Nat.strongRecOn with
    | _ i ih =>
      intro hi
      apply Classical.byContradiction
      intro hn
      have hno : listed.getD i true = false := by
        have : i < listed.size := by omega
        simp [this] at hn ⊢
        exact hn
      have hio : all[i]? = some all[i] := by simp [hi]
      have : i ∈ Region.ready .any all.toArray listed := mem_ready.2 ⟨hno, all[i], by simp [hi], fun e he hb => by
        have hlt := ok.back i _ hio e (by simpa using he) hb
        exact ih e.on (by omega) (by omega)⟩
      rw [hr] at this; cases this
  intro fuel
  induction fuel with
  | zero =>
    intro listed p μ T a w hs hcn inv
    have hall := cnt_zero _ (Nat.le_zero.1 hcn)
    refine ⟨?_, hQ _ p μ T a w hall inv⟩
    cases hr : Region.ready .any all.toArray listed with
    | nil => rfl
    | cons i rr =>
      exfalso
      have : i ∈ Region.ready .any all.toArray listed := by rw [hr]; exact List.mem_cons_self ..
      obtain ⟨h1, o, h2, _⟩ := mem_ready.1 this
      have hi : i < all.length := by
        have := (Array.getElem?_eq_some_iff.1 h2).1
        simpa using this
      have := hall i hi
      simp [show i < listed.size by omega] at h1 this
      rw [h1] at this; cases this
  | succ fuel ih =>
    intro listed p μ T a w hs hcn inv
    refine ⟨fun hr => hQ _ p μ T a w (full listed hs hr) inv, fun k hk => ?_⟩
    obtain ⟨h1, o, h2, h3⟩ := mem_ready.1 hk
    have hko : all[k]? = some o := by simpa using h2
    have hkl := (List.getElem?_eq_some_iff.1 hko).1
    have hL : listed.getD k false = false := by
      simp [show k < listed.size by omega] at h1 ⊢
      exact h1
    have hL' : ∀ i, (listed.setIfInBounds k true).getD i false = (listed.getD i false || decide (i = k)) := by
      intro i
      by_cases e : i = k
      · subst e
        simp [show i < listed.size by omega]
      · have : k ≠ i := fun q => e q.symm
        simp [Array.getElem?_setIfInBounds_ne this, e]
    have hready : ∀ j, ahead (masks all []) k j → listed.getD j false = true := by
      intro j hj
      obtain ⟨e, he, hb, hh⟩ := ahead_edge hko (ok.back k o hko) hj
      have hon := h3 e (by simpa using he) hb
      rcases hh with hh | hh
      · rw [← hh]; exact hon
      · exact inv.cl e.on (by have := ok.back k o hko e he hb; omega) hon j hh
    refine draw_step lex hI hW h0 hck hc ok hv0 hf0 inv hko hL hL' hready ?_
    intro p' μ' T' a' w' inv'
    refine ih (listed.setIfInBounds k true) p' μ' T' a' w' (by simpa using hs) ?_ inv'
    have := cnt_add (L := fun i => listed.getD i false) (L' := fun i => (listed.setIfInBounds k true).getD i false) hL hL' all.length
    rw [if_pos hkl] at this
    omega
end

section
variable {call : CallT} {P : Program} {c : Ctx} {nt : Nat} {w₀ : World} {N : Nat}

theorem evSeq_keeps (hck : CallKp call) {all : List Oper} : ∀ (rest : List Oper) (env : Env) (h : Mem) (n : Nat) (env' : Env) (h' : Mem) (n' : Nat), evSeq call P c nt all rest env h n = some (env', h', n') → Kp c h n h' n'
  | [], _, _, _, _, _, _, he => by
    simp only [evSeq, Option.some.injEq, Prod.mk.injEq] at he
    obtain ⟨_, rfl, rfl⟩ := he
    exact Kp.refl
  | o :: rest, env, h, n, env', h', n', he => by
    rw [evSeq] at he
    cases hw : wantedE all env o with
    | true =>
      simp only [hw, cond_true] at he
      split at he
      · cases he
      · rename_i v h1 n1 hop
        cases hb : Nat.ble n n1 with
        | false => simp [hb] at he
        | true =>
        simp only [hb, cond_true] at he
        split at he
        · cases he
        · exact (evOp_keeps hck hop).trans (evSeq_keeps hck rest _ _ _ _ _ _ he)
    | false =>
      simp only [hw, cond_false] at he
      split at he
      · cases he
      · exact evSeq_keeps hck rest _ _ _ _ _ _ he

theorem evDraw_keeps (hck : CallKp call) {all : List Oper} {ms : List Nat} {m0 : Nat} : ∀ (rest : List Oper) (k : Nat) (iv : List (Nat × Nat × Nat)) (ws : List (Nat × Nat × Nat × Nat)) (qs : List (Nat × Nat)) (ss : List Nat) (env : Env) (h : Mem) (n : Nat) (env' : Env) (h' : Mem) (n' : Nat), evDraw call P c nt all ms m0 rest k iv ws qs ss env h n = some (env', h', n') →
    m0 ≤ n → (n ≤ n' ∧ (∀ b, b < m0 → b < c.lo → h'.find b = h.find b) ∧ ∀ b, n' ≤ b → h'.find b = h.find b)
  | [], _, _, _, _, _, _, _, _, _, _, _, he, _ => by
    simp only [evDraw, Option.some.injEq, Prod.mk.injEq] at he
    obtain ⟨_, rfl, rfl⟩ := he
    exact ⟨Nat.le_refl _, fun _ _ _ => rfl, fun _ _ => rfl⟩
  | o :: rest, k, iv, ws, qs, ss, env, h, n, env', h', n', he, hle => by
    rw [evDraw] at he
    cases hw : wantedE all env o with
    | true =>
      simp only [hw, cond_true] at he
      cases hpo : pureO o.op with
      | true =>
        simp only [hpo, cond_true] at he
        split at he
        · cases he
        · rename_i v h1 z hop
          cases hz : Nat.beq z 0 with
          | false => simp [hz] at he
          | true =>
          simp only [hz, cond_true] at he
          split at he
          · cases he
          · exact evDraw_keeps hck rest _ _ _ _ _ _ _ _ _ _ _ he hle
      | false =>
        simp only [hpo, cond_false] at he
        cases hst : (isStore o.op && !(alone all ms k)) with
        | true =>
          simp only [hst, cond_true] at he
          split at he
          · cases he
          · rename_i b off xs hat
            cases hok : (okStore (ms.getD k 0) m0 b off xs.length ws qs && noLink c h b) with
            | false => rw [hok] at he; cases he
            | true =>
            simp only [hok, cond_true] at he
            split at he
            · cases he
            · rename_i v h1 n1 hop
              cases hz : Nat.beq n n1 with
              | false => simp [hz] at he
              | true =>
              simp only [hz, cond_true] at he
              obtain rfl := Tri.beq_true.1 hz
              split at he
              · cases he
              · have kp := evOp_keeps hck hop
                obtain ⟨g1, g2, g3⟩ := evDraw_keeps hck rest _ _ _ _ _ _ _ _ _ _ _ he hle
                exact ⟨g1, fun b h1 h2 => by rw [g2 b h1 h2, kp.lo b (by omega) h2], fun b hb => by rw [g3 b hb, kp.hi b (by omega)]⟩
        | false =>
          simp only [hst, cond_false] at he
          cases hld : (isLoad o.op && !(alone all ms k)) with
          | true =>
            simp only [hld, cond_true] at he
            cases hok : okLoad (ms.getD k 0) m0 (loadAt env o.op) ss with
            | false => rw [hok] at he; cases he
            | true =>
            simp only [hok, cond_true] at he
            split at he
            · cases he
            · split at he
              · cases he
              · exact evDraw_keeps hck rest _ _ _ _ _ _ _ _ _ _ _ he hle
          | false =>
            simp only [hld, cond_false] at he
            cases hok : (alone all ms k || (!(semi all ms k) || okSemi (ms.getD k 0) m0 qs)) with
            | false => rw [hok] at he; cases he
            | true =>
            simp only [hok, cond_true] at he
            split at he
            · cases he
            · rename_i v h1 n1 hop
              cases hb : Nat.ble n n1 with
              | false => simp [hb] at he
              | true =>
              simp only [hb, cond_true] at he
              have hn1 := ble.1 hb
              split at he
              · cases he
              · have kp := evOp_keeps hck hop
                obtain ⟨g1, g2, g3⟩ := evDraw_keeps hck rest _ _ _ _ _ _ _ _ _ _ _ he (by omega)
                refine ⟨by omega, fun b h1 h2 => ?_, fun b hb => by rw [g3 b hb, kp.hi b (by omega)]⟩
                rw [g2 b h1 h2]
                refine kp.lo b (by omega) ?_
                show b < loOf c all ms m0 k n
                unfold loOf
                cases alone all ms k
                · cases semi all ms k
                  · simp only [cond_false]; omega
                  · simp only [cond_false, cond_true]; exact h1
                · simp only [cond_true]; exact h2
    | false =>
      simp only [hw, cond_false] at he
      split at he
      · cases he
      · exact evDraw_keeps hck rest _ _ _ _ _ _ _ _ _ _ _ he hle

theorem evDraw_sound (hck : CallKp call) (hc : CallOK P call) {all : List Oper} (hokd : okDraw all (masks all []) = true) {Q : Exit → Act → World → Prop} {env env' : Env} {h h' : Mem} {n n' : Nat} {μ : Mu} {T : AMem} {a : Act} {w : World}
    (he : evDraw call P c nt all (masks all []) n all 0 [] [] [] [] env h n = some (env', h', n')) (hw : WR w₀ N μ T w) (hv : View c h T) (hf : Fresh μ T n n') (her : ER μ nt env a)
    (hQ : ∀ μ' T' w' a', Post c h' n n' w₀ N μ T μ' T' w' → ER μ' nt env' a' → a'.defers = a.defers → Q .normal a' w') :
    wpAny P .any all.toArray Q all.toArray.size (Array.replicate all.toArray.size false) a w := by
  have ok := okDraw_some hokd
  obtain ⟨r, lex, e1, e2, e3, e4, e5, _, _, e8, e9, e10⟩ := evDraw_lex all 0 [] [] [] [] env h n env' h' n' (fun j => by simp) he
  rw [Nat.zero_add] at e8 e9 e10
  have lex' : Lex call P c nt all (masks all []) n 0 all.length r := by rw [Nat.zero_add] at lex; exact lex
  subst e1 e2 e8 e9 e10
  have hmono : ∀ {i j}, i ≤ j → j ≤ all.length → r.M i ≤ r.M j := fun h1 h2 => lex_mono lex' h1 h2
  have hn0 : r.M 0 = n := e3
  have hfalse : ∀ i, (Array.replicate all.length false).getD i false = false := by
    intro i
    by_cases hm : i < all.length <;> simp [hm]
  have hEL0 : ∀ m, EL all (r.E 0) r.R (fun i => (Array.replicate all.length false).getD i false) m = r.E 0 := by
    intro m
    induction m with
    | zero => rfl
    | succ m ih => rw [EL, ih, hfalse]; rfl
  simp only [List.size_toArray]
  refine draw_any (w₀ := w₀) (N := N) (μ0 := μ) (T0 := T) (d0 := a.defers) lex' e4 e5 hn0 hck hc ok hv (by rw [hn0]; exact hf) ?_ all.length (Array.replicate all.length false) 0 μ T a w (by simp) (cnt_le _ _) ?_
  · intro L p μ1 T1 a1 w1 hall inv
    have hno : ∀ i, p ≤ i → i < all.length → cls all r.E i ≤ 3 := by
      intro i h1 h2
      rcases Nat.lt_or_ge (cls all r.E i) 4 with h | h
      · omega
      · have := inv.p2 i h1 h2 h
        rw [hall i h2] at this; cases this
    have hfull : ∀ b, app (pwOf all r.E) L p all.length T1 b = fw (pwOf all r.E) (fun _ => true) b p (all.length - p) (T1 b) := by
      intro b
      have := inv.ple
      exact fw_congr _ _ (fun i h1 h2 _ => hall i (by omega))
    have hnh : ∀ b, n ≤ b ∨ b < c.lo ∨ inBan c.ban b = true → ∀ i, i < all.length → ¬ Hits (pwOf all r.E) i b := by
      rintro b hb i hi ⟨off, xs, hpw⟩
      have s := lex_store lex' hi hpw
      obtain ⟨f1, _, f3, _⟩ := may_some s.may
      have := s.lt
      rcases hb with hb | hb | hb
      · omega
      · omega
      · rw [hb] at f3; cases f3
    have hid : ∀ b, n ≤ b ∨ b < c.lo ∨ inBan c.ban b = true → app (pwOf all r.E) L p all.length T1 b = T1 b := by
      intro b hb
      have := inv.ple
      exact fw_id _ _ (fun i _ _ _ => hnh b hb i (by omega))
    refine hQ μ1 (app (pwOf all r.E) L p all.length T1) w1 a1 ⟨inv.rel, ?_, ?_, ?_, by rw [← hn0]; exact hmono (Nat.zero_le _) (Nat.le_refl _)⟩ ⟨inv.er.size, fun t => ?_⟩ inv.dfr
    · intro b o' hlk
      obtain ⟨hban, hfind⟩ := look_find.1 hlk
      rcases Nat.lt_or_ge b (r.M p) with h1 | h1
      · have hseg := lex_seg lex' hck (p := p) (all.length - p) (by have := inv.ple; omega) (fun i h1 h2 => hno i h1 (by omega)) b h1
        rw [show p + (all.length - p) = all.length by have := inv.ple; omega] at hseg
        rw [hfull]
        cases hp : (r.H p).find b with
        | none => rw [hp, fw_none, hfind] at hseg; cases hseg
        | some ob =>
          rw [inv.segA b ob h1 (look_find.2 ⟨hban, hp⟩), ← hp, ← hseg]
          exact hfind
      · have hnb : n ≤ b := by rw [← hn0]; exact Nat.le_trans (hmono (Nat.zero_le p) inv.ple) h1
        rw [hid b (.inl hnb)]
        rcases Nat.lt_or_ge b (r.M all.length) with h2 | h2
        · obtain ⟨i, q1, q2, q3, q4⟩ := lex_locate (all := all) all.length inv.ple (Nat.le_refl _) h1 h2
          have hseg := lex_seg lex' hck (p := i + 1) (all.length - (i + 1)) (by omega) (fun j g1 g2 => hno j (by omega) (by omega)) b q4
          rw [show i + 1 + (all.length - (i + 1)) = all.length by omega, fw_id _ _ (fun j g1 g2 _ => hnh b (.inl hnb) j (by omega))] at hseg
          rw [hseg] at hfind
          exact inv.segB i q1 q2 (hall i q2) b o' q3 q4 (look_find.2 ⟨hban, hfind⟩)
        · rw [lex_hi lex' hck all.length (Nat.le_refl _) b h2] at hfind
          rw [inv.keep b (.inr h2)]
          exact hv b o' (look_find.2 ⟨hban, hfind⟩)
    · intro b hb
      exact inv.mu b (by rw [hn0]; exact hb)
    · intro b hb
      rw [hid b (by
        rcases hb with hb | hb
        · exact .inr hb.2
        · exact .inl (Nat.le_trans (by rw [← hn0]; exact hmono (Nat.zero_le _) (Nat.le_refl _)) hb))]
      exact inv.keep b (by rw [hn0]; exact hb)
    · have := EL_full lex' hall t
      unfold valX at this
      rw [← this]
      exact inv.er.val t
  · have happ0 : app (pwOf all r.E) (fun i => (Array.replicate all.length false).getD i false) 0 all.length T = T := by
      funext b
      exact fw_id _ _ (fun i _ _ hs => by simp only [hfalse] at hs; cases hs)
    refine ⟨by rw [happ0]; exact hw, by rw [hEL0]; exact her, rfl, fun b o' hb hlk => hv b o' hlk, fun i _ _ hL => (by simp only [hfalse] at hL; cases hL), ?_, fun _ _ => rfl, fun _ _ => rfl, fun i _ hL => (by simp only [hfalse] at hL; cases hL), Nat.zero_le _, fun i hi => by omega, fun i hi => by omega, fun i _ _ _ => hfalse i⟩
    intro i hi _ b h1 h2
    exact hf b (Nat.le_trans (by rw [← hn0]; exact hmono (Nat.zero_le i) (by omega)) h1) (Nat.lt_of_lt_of_le h2 (hmono (by omega) (Nat.le_refl _)))

end
end Go.Proofs.YtpbnpbmiijgeiaaGreatDoor.Ev
