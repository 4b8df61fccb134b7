/- An evaluator of the program's code, seventeenth part: regions that come one behind the other. No condition. -/
import Derived.Test.YtpbnpbmiijgeiaaGreatDoorEvP
namespace Go.Proofs.YtpbnpbmiijgeiaaGreatDoor.Ev
open Go Go.RowKit

section
variable {P : Program} {c : Ctx} {w₀ : World} {N : Nat}

theorem putE_sound {nt : Nat} {env env' : Env} {a : Act} {μ : Mu} {d : Option Tmp} {v v' : Value} (her : ER μ nt env a) (hv : VR μ v v') (he : putE nt env d v = some env') : ER μ nt env' (a.put d v') ∧ (a.put d v').defers = a.defers := by
  unfold putE at he
  split at he
  · cases he; exact ⟨her, rfl⟩
  · rename_i t
    cases hb : (Nat.ble (t + 1) nt && Nat.ble nt 1000000) with
    | false => simp [hb] at he
    | true =>
    simp only [hb, cond_true, Option.some.injEq] at he
    subst he
    simp only [Bool.and_eq_true] at hb
    have h1 := ble.1 hb.1
    have h2 := ble.1 hb.2
    refine ⟨⟨by simp [Act.put, her.size], fun s => ?_⟩, rfl⟩
    rw [Tri.find_put 32 env t (some v) s (by omega)]
    by_cases hs : s = t
    · subst hs
      rw [if_pos rfl]
      have : s < a.tmps.size := by rw [her.size]; omega
      simpa [Act.put, this] using hv
    · rw [if_neg hs]
      have := her.val s
      simpa [Act.put, Array.getElem?_setIfInBounds_ne (fun e => hs e.symm)] using this

theorem wanted_sound {nt : Nat} {env : Env} {a : Act} {μ : Mu} {all : List Oper} {o : Oper} (her : ER μ nt env a) : Region.wanted o (yielded all.toArray a.tmps) = wantedE all env o := by
  unfold Region.wanted wantedE
  cases o.guard with
  | none => rfl
  | some g =>
    obtain ⟨j, want⟩ := g
    simp only [yielded, List.getElem?_toArray]
    cases ht : (all[j]?).bind (·.dst) with
    | none => simp
    | some t =>
      have hval := her.val t
      simp only [Option.bind_some]
      have hgd : a.tmps.getD t undef = (a.tmps[t]?).getD undef := by simp
      rw [hgd] at hval
      generalize (env.find t).getD undef = z at hval
      cases hq : a.tmps[t]? with
      | none =>
        rw [hq] at hval
        simp only [Option.getD_none] at hval
        unfold undef at hval
        cases hval
        simp
      | some u =>
        rw [hq] at hval
        simp only [Option.getD_some] at hval
        cases hval <;> simp

theorem evSeq_mono {call : CallT} {nt : Nat} {all : List Oper} : ∀ (rest : List Oper) (env : Env) (h : Mem) (n : Nat) (env' : Env) (h' : Mem) (n' : Nat), evSeq call P c nt all rest env h n = some (env', h', n') → n ≤ n'
  | [], _, _, _, _, _, _, he => by simp only [evSeq, Option.some.injEq, Prod.mk.injEq] at he; omega
  | o :: rest, env, h, n, env', h', n', he => by
    rw [evSeq] at he
    cases hw : wantedE all env o with
    | true =>
      simp only [hw, cond_true] at he
      split at he
      · cases he
      · rename_i v h1 n1 _
        cases hb : Nat.ble n n1 with
        | false => simp [hb] at he
        | true =>
        simp only [hb, cond_true] at he
        split at he
        · cases he
        · have := evSeq_mono rest _ _ _ _ _ _ he
          have := ble.1 hb
          omega
    | false =>
      simp only [hw, cond_false] at he
      split at he
      · cases he
      · exact evSeq_mono rest _ _ _ _ _ _ he

theorem evSeq_sound {call : CallT} (hc : CallOK P call) {nt : Nat} {all : List Oper} {Q : Exit → Act → World → Prop} : ∀ (rest : List Oper) (k : Nat) (env : Env) (h : Mem) (n : Nat) (env' : Env) (h' : Mem) (n' : Nat) (μ : Mu) (T : AMem) (a : Act) (w : World),
    (∀ j, rest[j]? = all[k + j]?) → evSeq call P c nt all rest env h n = some (env', h', n') → WR w₀ N μ T w → View c h T → Fresh μ T n n' → ER μ nt env a →
    (∀ μ' T' w' a', Post c h' n n' w₀ N μ T μ' T' w' → ER μ' nt env' a' → a'.defers = a.defers → Q .normal a' w') → wpOps P all.toArray Q (List.range' k rest.length) a w
  | [], k, env, h, n, env', h', n', μ, T, a, w, _, he, hw, hv, hf, her, hQ => by
    simp only [evSeq, Option.some.injEq, Prod.mk.injEq] at he
    obtain ⟨rfl, rfl, rfl⟩ := he
    exact hQ μ T w a (Post.refl hw hv) her rfl
  | o :: rest, k, env, h, n, env', h', n', μ, T, a, w, hidx, he, hw, hv, hf, her, hQ => by
    have h0 : all[k]? = some o := by simpa using (hidx 0).symm
    have hidx' : ∀ j, rest[j]? = all[k + 1 + j]? := fun j => by
      have := hidx (j + 1)
      rw [List.getElem?_cons_succ] at this
      rw [this]; congr 1; omega
    have hr : List.range' k (o :: rest).length = k :: List.range' (k + 1) rest.length := by simp [List.range'_succ]
    rw [hr, wpOps_cons]
    unfold wpOp
    simp only [List.getElem?_toArray, h0, wanted_sound her]
    rw [evSeq] at he
    cases hwt : wantedE all env o with
    | true =>
      simp only [hwt, cond_true] at he
      simp only [if_true]
      split at he
      · cases he
      · rename_i v h1 n1 hop
        cases hb : Nat.ble n n1 with
        | false => simp [hb] at he
        | true =>
        simp only [hb, cond_true] at he
        split at he
        · cases he
        · rename_i env1 hput
          have hm := evSeq_mono rest _ _ _ _ _ _ he
          refine .inl (evOp_sound hc hw hv (hf.left hm) her hop _ _ ?_)
          intro μ1 T1 w1 r1 hp hr1
          obtain ⟨her1, hd1⟩ := putE_sound (her.mono (hp.sub (hf.left hm))) hr1 hput
          refine evSeq_sound hc rest (k + 1) env1 h1 n1 env' h' n' μ1 T1 _ w1 hidx' he hp.rel hp.view (hp.fresh hf) her1 ?_
          intro μ2 T2 w2 a2 hp2 her2 hd2
          exact hQ μ2 T2 w2 a2 (hp.trans hp2) her2 (by rw [hd2, hd1])
    | false =>
      simp only [hwt, cond_false] at he
      simp only [Bool.false_eq_true, if_false]
      split at he
      · cases he
      · rename_i env1 hput
        obtain ⟨her1, hd1⟩ := putE_sound her VR.undef hput
        refine evSeq_sound hc rest (k + 1) env1 h n env' h' n' μ T _ w hidx' he hw hv hf her1 ?_
        intro μ2 T2 w2 a2 hp2 her2 hd2
        exact hQ μ2 T2 w2 a2 hp2 her2 (by rw [hd2, hd1])

end
end Go.Proofs.YtpbnpbmiijgeiaaGreatDoor.Ev
