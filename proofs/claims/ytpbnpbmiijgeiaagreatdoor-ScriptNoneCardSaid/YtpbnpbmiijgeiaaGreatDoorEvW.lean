/- An evaluator of the program's code, twenty-third part: code and calls: WHAT THE EVALUATOR HANDS BACK, THE PROGRAM HANDS BACK. No condition but that the contracts hold and the program draws its orders in the mixed way. -/
import Derived.Test.YtpbnpbmiijgeiaaGreatDoorEvV
namespace Go.Proofs.YtpbnpbmiijgeiaaGreatDoor.Ev
open Go Go.RowKit

section
variable {call : CallT} {P : Program} {c : Ctx} {nt : Nat} {w₀ : World} {N : Nat}

def exitOf : AExit → Exit
  | .normal => .normal
  | .exit id => .exit id
  | .ret => .ret

theorem region_keeps (hck : CallKp call) {ops : Array Oper} {draw : Bool} {env env' : Env} {h h' : Mem} {n n' : Nat}
    (he : (bif draw then (let ms := masks ops.toList []; bif okDraw ops.toList ms then evDraw call P c nt ops.toList ms n ops.toList 0 [] [] [] [] env h n else none) else evSeq call P c nt ops.toList ops.toList env h n) = some (env', h', n')) : Kp c h n h' n' := by
  cases draw with
  | false => exact evSeq_keeps hck _ _ _ _ _ _ _ he
  | true =>
    simp only [cond_true] at he
    cases hok : okDraw ops.toList (masks ops.toList []) with
    | false => simp [hok] at he
    | true =>
      simp only [hok, cond_true] at he
      obtain ⟨g1, g2, g3⟩ := evDraw_keeps hck _ _ _ _ _ _ _ _ _ _ _ _ he (Nat.le_refl _)
      exact ⟨g1, g2, g3⟩

theorem region_sound (hm : P.follows .mixedOrders = true) (hck : CallKp call) (hc : CallOK P call) {ops : Array Oper} {draw : Bool} {id : Nat} {env env' : Env} {h h' : Mem} {n n' : Nat} {μ : Mu} {T : AMem} {a : Act} {w : World} {Q : Exit → Act → World → Prop}
    (he : (bif draw then (let ms := masks ops.toList []; bif okDraw ops.toList ms then evDraw call P c nt ops.toList ms n ops.toList 0 [] [] [] [] env h n else none) else evSeq call P c nt ops.toList ops.toList env h n) = some (env', h', n'))
    (hw : WR w₀ N μ T w) (hv : View c h T) (hf : Fresh μ T n n') (her : ER μ nt env a)
    (hQ : ∀ μ' T' w' a', Post c h' n n' w₀ N μ T μ' T' w' → ER μ' nt env' a' → a'.defers = a.defers → Q .normal a' w') : (Code.region id ops draw).wp P Q a w := by
  cases draw with
  | false =>
    refine wp_region ?_
    have := evSeq_sound (all := ops.toList) hc ops.toList 0 env h n env' h' n' μ T a w (fun j => by simp) he hw hv hf her hQ
    simpa [List.range_eq_range'] using this
  | true =>
    simp only [cond_true] at he
    cases hok : okDraw ops.toList (masks ops.toList []) with
    | false => simp [hok] at he
    | true =>
      simp only [hok, cond_true] at he
      refine wp_region_any hm ?_
      have := evDraw_sound (all := ops.toList) hck hc hok (w := { w with drawn := w.drawn + 1 }) he hw.drew hv hf her hQ
      simpa using this

theorem evCode_keeps (hck : CallKp call) : ∀ (f : Nat) (code : Code) (env : Env) (h : Mem) (n : Nat) (e : AExit) (env' : Env) (h' : Mem) (n' : Nat), evCode call P c nt f code env h n = some (e, env', h', n') → Kp c h n h' n' := by
  intro f
  induction f with
  | zero => intro code env h n e env' h' n' he; simp [evCode] at he
  | succ f ih =>
    intro code env h n e env' h' n' he
    have same : ∀ {x : AExit}, some (x, env, h, n) = some (e, env', h', n') → Kp c h n h' n' := by
      intro x hx
      simp only [Option.some.injEq, Prod.mk.injEq] at hx
      obtain ⟨_, _, rfl, rfl⟩ := hx
      exact Kp.refl
    cases code <;> simp only [evCode] at he <;> (first | (exact same he) | (cases he; done) | skip)
    case region id ops draw =>
      split at he
      · rename_i env1 h1 n1 hr
        simp only [Option.some.injEq, Prod.mk.injEq] at he
        obtain ⟨_, _, rfl, rfl⟩ := he
        exact region_keeps hck hr
      · cases he
    case seq x y =>
      split at he
      · rename_i env1 h1 n1 hr
        exact (ih _ _ _ _ _ _ _ _ hr).trans (ih _ _ _ _ _ _ _ _ he)
      · exact ih _ _ _ _ _ _ _ _ he
    case cond x y z =>
      split at he
      · exact ih _ _ _ _ _ _ _ _ he
      · cases he
    case block id x =>
      split at he
      · rename_i i env1 h1 n1 hr
        have := ih _ _ _ _ _ _ _ _ hr
        cases hb : Nat.beq i id <;> simp only [hb, cond_true, cond_false, Option.some.injEq, Prod.mk.injEq] at he <;> obtain ⟨_, _, rfl, rfl⟩ := he <;> exact this
      · exact ih _ _ _ _ _ _ _ _ he
    case loop x =>
      split at he
      · rename_i env1 h1 n1 hr
        exact (ih _ _ _ _ _ _ _ _ hr).trans (ih _ _ _ _ _ _ _ _ he)
      · exact ih _ _ _ _ _ _ _ _ he
    case scope x => exact ih _ _ _ _ _ _ _ _ he

/-- what the evaluation of code is worth -/
def CodeOK (call : CallT) (P : Program) (c : Ctx) (nt : Nat) (w₀ : World) (N : Nat) (f : Nat) : Prop :=
  ∀ (code : Code) (env : Env) (h : Mem) (n : Nat) (e : AExit) (env' : Env) (h' : Mem) (n' : Nat), evCode call P c nt f code env h n = some (e, env', h', n') → ∀ (μ : Mu) (T : AMem) (a : Act) (w : World) (Q : Exit → Act → World → Prop),
    WR w₀ N μ T w → View c h T → Fresh μ T n n' → ER μ nt env a → (∀ μ' T' w' a', Post c h' n n' w₀ N μ T μ' T' w' → ER μ' nt env' a' → a'.defers = a.defers → Q (exitOf e) a' w') → code.wp P Q a w
def LoopOK (call : CallT) (P : Program) (c : Ctx) (nt : Nat) (w₀ : World) (N : Nat) (f : Nat) : Prop :=
  ∀ (code : Code) (env : Env) (h : Mem) (n : Nat) (e : AExit) (env' : Env) (h' : Mem) (n' : Nat), evCode call P c nt f (.loop code) env h n = some (e, env', h', n') → ∀ (μ : Mu) (T : AMem) (a : Act) (w : World) (Q : Exit → Act → World → Prop),
    WR w₀ N μ T w → View c h T → Fresh μ T n n' → ER μ nt env a → (∀ μ' T' w' a', Post c h' n n' w₀ N μ T μ' T' w' → ER μ' nt env' a' → a'.defers = a.defers → Q (exitOf e) a' w') → Code.rounds P code Q f a w

theorem evCode_sound (hm : P.follows .mixedOrders = true) (hck : CallKp call) (hc : CallOK P call) : ∀ f, CodeOK call P c nt w₀ N f ∧ LoopOK call P c nt w₀ N f := by
  intro f
  induction f with
  | zero => exact ⟨fun code env h n e env' h' n' he => by simp [evCode] at he, fun code env h n e env' h' n' he => by simp [evCode] at he⟩
  | succ f ih =>
    obtain ⟨ihc, ihl⟩ := ih
    have loopOK : LoopOK call P c nt w₀ N (f + 1) := by
      intro x env h n e env' h' n' he μ T a w Q hw hv hf her hQ
      rw [rounds_succ]
      simp only [evCode] at he
      split at he
      · rename_i env1 h1 n1 hr
        have hk1 := evCode_keeps hck f x env h n _ env1 h1 n1 hr
        have hk2 := evCode_keeps hck f (.loop x) env1 h1 n1 e env' h' n' he
        refine ihc x env h n _ env1 h1 n1 hr μ T a w _ hw hv (hf.left hk2.le) her ?_
        intro μ1 T1 w1 a1 hp1 her1 hd1
        show Code.rounds P x Q f a1 w1
        refine ihl x env1 h1 n1 e env' h' n' he μ1 T1 a1 w1 Q hp1.rel hp1.view (hp1.fresh hf) her1 ?_
        intro μ2 T2 w2 a2 hp2 her2 hd2
        exact hQ μ2 T2 w2 a2 (hp1.trans hp2) her2 (by rw [hd2, hd1])
      · rename_i hne
        refine ihc x env h n e env' h' n' he μ T a w _ hw hv hf her ?_
        intro μ1 T1 w1 a1 hp1 her1 hd1
        have hq := hQ μ1 T1 w1 a1 hp1 her1 hd1
        cases e with
        | normal => exact (hne env' h' n' he).elim
        | exit id => exact hq
        | ret => exact hq
    refine ⟨?_, loopOK⟩
    intro code env h n e env' h' n' he μ T a w Q hw hv hf her hQ
    have here : ∀ {x : AExit}, some (x, env, h, n) = some (e, env', h', n') → Q (exitOf x) a w := by
      intro x hx
      simp only [Option.some.injEq, Prod.mk.injEq] at hx
      obtain ⟨rfl, rfl, rfl, rfl⟩ := hx
      exact hQ μ T w a (Post.refl hw hv) her rfl
    cases code with
    | loop x => exact wp_loop_rounds (f + 1) (loopOK x env h n e env' h' n' he μ T a w Q hw hv hf her hQ)
    | skip => simp only [evCode] at he; exact wp_skip (here he)
    | label l => simp only [evCode] at he; exact wp_label (here he)
    | exit id => simp only [evCode] at he; exact wp_exit (here he)
    | ret => simp only [evCode] at he; exact wp_ret (here he)
    | region id ops draw =>
      simp only [evCode] at he
      split at he
      · rename_i env1 h1 n1 hr
        simp only [Option.some.injEq, Prod.mk.injEq] at he
        obtain ⟨rfl, rfl, rfl, rfl⟩ := he
        exact region_sound hm hck hc hr hw hv hf her hQ
      · cases he
    | seq x y =>
      simp only [evCode] at he
      refine wp_seq ?_
      split at he
      · rename_i env1 h1 n1 hr
        have hk1 := evCode_keeps hck f x env h n _ env1 h1 n1 hr
        have hk2 := evCode_keeps hck f y env1 h1 n1 e env' h' n' he
        refine ihc x env h n _ env1 h1 n1 hr μ T a w _ hw hv (hf.left hk2.le) her ?_
        intro μ1 T1 w1 a1 hp1 her1 hd1
        show y.wp P Q a1 w1
        refine ihc y env1 h1 n1 e env' h' n' he μ1 T1 a1 w1 Q hp1.rel hp1.view (hp1.fresh hf) her1 ?_
        intro μ2 T2 w2 a2 hp2 her2 hd2
        exact hQ μ2 T2 w2 a2 (hp1.trans hp2) her2 (by rw [hd2, hd1])
      · rename_i hne
        refine ihc x env h n e env' h' n' he μ T a w _ hw hv hf her ?_
        intro μ1 T1 w1 a1 hp1 her1 hd1
        have hq := hQ μ1 T1 w1 a1 hp1 her1 hd1
        cases e with
        | normal => exact (hne env' h' n' he).elim
        | exit id => exact hq
        | ret => exact hq
    | cond x y z =>
      simp only [evCode] at he
      split at he
      · rename_i q hx
        have hr := opv_sound hw her x _ hx
        have hq : a.eval x = .bool q := by generalize a.eval x = v at hr; cases hr; rfl
        refine wp_cond hq ?_
        have := ihc _ env h n e env' h' n' he μ T a w Q hw hv hf her hQ
        cases q <;> exact this
      · cases he
    | block id x =>
      simp only [evCode] at he
      refine wp_block ?_
      split at he
      · rename_i i env1 h1 n1 hr
        have hout : env' = env1 ∧ h' = h1 ∧ n' = n1 ∧ e = (if i = id then .normal else .exit i) := by
          rw [Tri.cond_beq] at he
          by_cases hi : i = id
          · rw [if_pos hi] at he ⊢; simp only [Option.some.injEq, Prod.mk.injEq] at he; exact ⟨he.2.1.symm, he.2.2.1.symm, he.2.2.2.symm, he.1.symm⟩
          · rw [if_neg hi] at he ⊢; simp only [Option.some.injEq, Prod.mk.injEq] at he; exact ⟨he.2.1.symm, he.2.2.1.symm, he.2.2.2.symm, he.1.symm⟩
        obtain ⟨rfl, rfl, rfl, rfl⟩ := hout
        refine ihc x env h n _ _ _ _ hr μ T a w _ hw hv hf her ?_
        intro μ1 T1 w1 a1 hp1 her1 hd1
        have hq := hQ μ1 T1 w1 a1 hp1 her1 hd1
        show if i = id then Q .normal a1 w1 else Q (.exit i) a1 w1
        by_cases hi : i = id
        · rw [if_pos hi] at hq ⊢; exact hq
        · rw [if_neg hi] at hq ⊢; exact hq
      · rename_i hne
        refine ihc x env h n e env' h' n' he μ T a w _ hw hv hf her ?_
        intro μ1 T1 w1 a1 hp1 her1 hd1
        have hq := hQ μ1 T1 w1 a1 hp1 her1 hd1
        cases e with
        | normal => exact hq
        | exit i => exact (hne i env' h' n' he).elim
        | ret => exact hq
    | scope x =>
      simp only [evCode] at he
      refine wp_scope_straight ?_
      refine ihc x env h n e env' h' n' he μ T a w _ hw hv hf her ?_
      intro μ1 T1 w1 a1 hp1 her1 hd1
      have hq := hQ μ1 T1 w1 a1 hp1 her1 hd1
      cases e <;> exact hq
    | _ => simp only [evCode] at he; cases he
end

/-! ### Calls -/
/-- contracts of functions on values without addresses -/
def ConOK (P : Program) (con : ConT) : Prop := ∀ f args v, con f args = some v → atom 3 v = true ∧ ∀ w, Calls P f args.toArray w (fun e w' => e = .returned v ∧ Below w.heap.size w w')

theorem WR.later {w₀ w w' : World} {N : Nat} {μ : Mu} {T : AMem} (hw : WR w₀ N μ T w) (hb : Below w.heap.size w w') : WR w₀ N μ T w' := by
  have hN : N ≤ w.heap.size := Nat.le_trans hw.low hw.below.size
  refine ⟨hw.below.trans (hb.mono hN), hw.low, fun b o h1 => ?_, fun b o L h1 h2 => Nat.lt_of_lt_of_le (hw.old b o L h1 h2) hb.size, hw.gl, hw.sep, hw.rol, hw.mapx⟩
  obtain ⟨L, q1, q2⟩ := hw.obj b o h1
  exact ⟨L, q1, q2.same (fun _ _ h => h) (hb.block _ (hw.old b o L h1 q1))⟩

theorem argEnv_get : ∀ (args : List Value) (i : Nat) (e : Env) (t : Nat), i + args.length ≤ 1000000 → (argEnv args i e).find t = if i ≤ t ∧ t < i + args.length then args[t - i]? else e.find t
  | [], i, e, t, _ => by
    rw [argEnv, if_neg (by simp)]
  | v :: r, i, e, t, h => by
    simp only [List.length_cons] at h
    rw [argEnv, argEnv_get r (i + 1) _ t (by omega)]
    have hb : i + 1 < 2 ^ 32 := Nat.lt_of_le_of_lt (show i + 1 ≤ 1000000 by omega) (by decide)
    rw [Tri.find_put 32 e i (some v) t hb]
    simp only [List.length_cons]
    by_cases h1 : i + 1 ≤ t ∧ t < i + 1 + r.length
    · rw [if_pos h1, if_pos (by omega), show t - i = (t - (i + 1)) + 1 by omega, List.getElem?_cons_succ]
    · rw [if_neg h1]
      by_cases h2 : t = i
      · subst h2
        rw [if_pos rfl, if_pos (by omega)]
        simp
      · rw [if_neg h2, if_neg (by omega)]

section
variable {P : Program} {w₀ : World} {N : Nat}

theorem resE_sound {c : Ctx} {nt : Nat} {env : Env} {h : Mem} {μ : Mu} {T : AMem} {a : Act} {w : World} (hw : WR w₀ N μ T w) (hv : View c h T) (her : ER μ nt env a) : ∀ (l : List ResultVar) (vs : List Value), resE P c env h l = some vs →
    ∃ vs', (l.mapM (fun | .tmp t => pure (a.tmps.getD t undef) | .cell b t => do loadVar t (← asAddr (a.tmps.getD b undef)) : ResultVar → Sem Value)).run P w = .ok vs' w ∧ VRs μ vs vs'
  | [], vs, he => by
    simp only [resE, Option.some.injEq] at he
    subst he
    exact ⟨[], by simp, VRs.nil⟩
  | x :: r, vs, he => by
    rw [resE] at he
    split at he
    · rename_i v us h1 h2
      simp only [Option.some.injEq] at he
      subst he
      obtain ⟨us', q1, q2⟩ := resE_sound hw hv her r us h2
      have hx : ∃ v', ((fun | .tmp t => pure (a.tmps.getD t undef) | .cell b t => do loadVar t (← asAddr (a.tmps.getD b undef)) : ResultVar → Sem Value) x).run P w = .ok v' w ∧ VR μ v v' := by
        cases x with
        | tmp t =>
          simp only [resOne, Option.some.injEq] at h1
          subst h1
          exact ⟨_, rfl, her.val t⟩
        | cell b t =>
          simp only [resOne] at h1
          have hb := her.val b
          obtain ⟨r', g1, g2⟩ := aLoad_sound hw hv hb h1
          refine ⟨r', ?_, g2⟩
          unfold aLoad at h1
          split at h1
          case h_2 => cases h1
          rename_i bb oo heq
          rw [heq] at hb
          show (do loadVar t (← asAddr (a.tmps.getD b undef)) : Sem Value).run P w = _
          generalize a.tmps.getD b undef = q at hb g1 ⊢
          cases hb
          simpa [Instr.loadAt, Instr.sureAddr, asAddr] using g1
      obtain ⟨v', g1, g2⟩ := hx
      refine ⟨v' :: us', ?_, VRs.cons g2 q2⟩
      rw [List.mapM_cons]
      simp only [Sem.run_bind, g1, Result.andThen_ok, q1, Sem.run_pure]
    · cases he

theorem liftCon_keeps (con : ConT) : CallKp (liftCon con) := by
  intro c f args h n r h' n' he
  unfold liftCon at he
  split at he
  · exact same_keeps he
  · cases he
theorem liftCon_ok {con : ConT} (hcon : ConOK P con) : CallOK P (liftCon con) := by
  intro c g args h n r h' n' he w₀ N μ T w args' hw hv hf hargs
  unfold liftCon at he
  split at he
  · rename_i v hcv
    simp only [Option.some.injEq, Prod.mk.injEq] at he
    obtain ⟨rfl, rfl, rfl⟩ := he
    cases hat : args.all (atom 3) with
    | false => simp [hat] at hcv
    | true =>
    simp only [hat, cond_true] at hcv
    have := VRs.atoms hargs hat
    subst this
    obtain ⟨h1, h2⟩ := hcon g args v hcv
    refine (h2 w).mono ?_
    rintro e w' ⟨rfl, hb⟩
    exact ⟨v, μ, T, rfl, Post.refl (hw.later hb) hv, atom_refl μ 3 v h1⟩
  · cases he
theorem orCall_keeps {a b : CallT} (ha : CallKp a) (hb : CallKp b) : CallKp (orCall a b) := by
  intro c f args h n r h' n' he
  unfold orCall at he
  split at he
  · rename_i q hq
    cases he
    exact ha _ _ _ _ _ _ _ _ hq
  · exact hb _ _ _ _ _ _ _ _ he
theorem orCall_ok {a b : CallT} (ha : CallOK P a) (hb : CallOK P b) : CallOK P (orCall a b) := by
  intro c f args h n r h' n' he
  unfold orCall at he
  split at he
  · rename_i q hq
    cases he
    exact ha _ _ _ _ _ _ _ _ hq
  · exact hb _ _ _ _ _ _ _ _ he

theorem evCall_keeps {con : CallT} (hk : CallKp con) : ∀ f, CallKp (evCall con P f) := by
  intro f
  induction f with
  | zero => intro c g args h n r h' n' he; simp [evCall] at he
  | succ f ih =>
    intro c g args h n r h' n' he
    rw [evCall] at he
    split at he
    · rename_i q hq
      cases he
      exact hk _ _ _ _ _ _ _ _ hq
    · split at he
      · cases he
      · rename_i fn hfn
        split at he
        · cases he
        · rename_i code hbody
          cases hb : (Nat.ble args.length fn.ntmps && Nat.ble fn.ntmps 1000000) with
          | false => simp [hb] at he
          | true =>
          simp only [hb, cond_true] at he
          split at he
          · rename_i env1 h1 n1 hr
            have hk := evCode_keeps ih _ _ _ _ _ _ _ _ _ hr
            split at he <;> first | (cases he; done) | skip
            all_goals
              simp only [Option.some.injEq, Prod.mk.injEq] at he
              obtain ⟨_, rfl, rfl⟩ := he
              exact hk
          · rename_i env1 h1 n1 hr
            have hk := evCode_keeps ih _ _ _ _ _ _ _ _ _ hr
            split at he <;> first | (cases he; done) | skip
            all_goals
              simp only [Option.some.injEq, Prod.mk.injEq] at he
              obtain ⟨_, rfl, rfl⟩ := he
              exact hk
          · cases he

theorem evCall_sound (hm : P.follows .mixedOrders = true) {con : CallT} (hk : CallKp con) (hcon : CallOK P con) : ∀ f, CallOK P (evCall con P f) := by
  intro f
  induction f with
  | zero => intro c g args h n r h' n' he; simp [evCall] at he
  | succ f ih =>
    intro c g args h n r h' n' he w₀ N μ T w args' hw hv hf hargs
    rw [evCall] at he
    split at he
    · rename_i q hq
      cases he
      exact hcon _ _ _ _ _ _ _ _ hq w₀ N μ T w args' hw hv hf hargs
    · split at he
      · cases he
      rename_i fn hfn
      split at he
      · cases he
      rename_i code hbody
      cases hb : (Nat.ble args.length fn.ntmps && Nat.ble fn.ntmps 1000000) with
      | false => simp [hb] at he
      | true =>
      simp only [hb, cond_true] at he
      simp only [Bool.and_eq_true] at hb
      have hlen := ble.1 hb.1
      have hmax := ble.1 hb.2
      refine calls_of_wp hfn hbody ?_
      -- the slots at the beginning
      have her : ER μ fn.ntmps (argEnv args 0 .leaf) { tmps := args'.toArray ++ Array.replicate (fn.ntmps - args'.toArray.size) undef, defers := [] } := by
        refine ⟨by simp [← hargs.1]; omega, fun t => ?_⟩
        rw [argEnv_get args 0 .leaf t (by omega)]
        simp only [Nat.zero_le, true_and, Nat.zero_add, Nat.sub_zero]
        by_cases ht : t < args.length
        · rw [if_pos ht]
          obtain ⟨v', q1, q2⟩ := hargs.2 t args[t] (by simp [ht])
          have ht' : t < args'.length := by rw [← hargs.1]; exact ht
          have : v' = args'[t] := by simpa [ht'] using q1.symm
          subst this
          simpa [ht, Array.getElem?_append_left (show t < args'.toArray.size by simpa using ht'), ht'] using q2
        · rw [if_neg ht]
          have hu : (args'.toArray ++ Array.replicate (fn.ntmps - args'.toArray.size) undef).getD t undef = undef := by
            have hge : args'.toArray.size ≤ t := by simp; rw [← hargs.1]; omega
            simp only [Array.getD_eq_getD_getElem?, Array.getElem?_append_right hge]
            rw [Array.getElem?_replicate]
            split <;> rfl
          rw [hu]
          exact VR.undef
      have fin : ∀ (e : AExit) (env1 : Env) (h1 : Mem) (n1 : Nat), (e = .normal ∨ e = .ret) → evCode (evCall con P f) P c fn.ntmps 100000 code (argEnv args 0 .leaf) h n = some (e, env1, h1, n1) →
          (match resE P c env1 h1 fn.results.toList with | some [v] => some (v, h1, n1) | some vs => some (.tuple vs.toArray, h1, n1) | none => none) = some (r, h', n') →
          code.wp P (bodyPost P fn (fun e w' => ∃ r' μ' T', e = .returned r' ∧ Post c h' n n' w₀ N μ T μ' T' w' ∧ VR μ' r r')) { tmps := args'.toArray ++ Array.replicate (fn.ntmps - args'.toArray.size) undef, defers := [] } w := by
        intro e env1 h1 n1 hex hev hres
        have hn1 : h' = h1 ∧ n' = n1 := by
          split at hres <;> first | (cases hres; done) | skip
          all_goals
            simp only [Option.some.injEq, Prod.mk.injEq] at hres
            exact ⟨hres.2.1.symm, hres.2.2.symm⟩
        obtain ⟨rfl, rfl⟩ := hn1
        refine (evCode_sound hm (evCall_keeps hk f) ih 100000).1 code _ h n e env1 h' n' hev μ T _ w _ hw hv hf her ?_
        intro μ1 T1 w1 a1 hp1 her1 hd1
        have hend : ∃ v, (results fn a1.tmps).run P w1 = .ok v w1 ∧ VR μ1 r v := by
          have hsome : ∃ vs, resE P c env1 h' fn.results.toList = some vs := by
            cases hr : resE P c env1 h' fn.results.toList with
            | none => simp [hr] at hres
            | some vs => exact ⟨vs, rfl⟩
          obtain ⟨vs, hvs⟩ := hsome
          obtain ⟨vs', q1, q2⟩ := resE_sound hp1.rel hp1.view her1 fn.results.toList vs hvs
          have hrun : (results fn a1.tmps).run P w1 = .ok (if h : vs'.toArray.size = 1 then vs'.toArray[0] else .tuple vs'.toArray) w1 := by
            unfold results
            rw [Array.mapM_eq_mapM_toList]
            simp only [Sem.run_bind, Sem.run_map]
            erw [q1]
            rfl
          refine ⟨_, hrun, ?_⟩
          rw [hvs] at hres
          split at hres
          · rename_i v heq
            simp only [Option.some.injEq] at heq
            subst heq
            simp only [Option.some.injEq, Prod.mk.injEq] at hres
            obtain ⟨rfl, _, _⟩ := hres
            obtain ⟨v', us, rfl, g1, g2⟩ := q2.uncons
            obtain rfl := g2.unnil
            simpa using g1
          · rename_i us hne heq
            simp only [Option.some.injEq] at heq
            subst heq
            simp only [Option.some.injEq, Prod.mk.injEq] at hres
            obtain ⟨rfl, _, _⟩ := hres
            have hl : ¬ vs'.toArray.size = 1 := by
              intro h1
              have : vs.length = 1 := by rw [q2.1]; simpa using h1
              obtain ⟨v, rfl⟩ := List.length_eq_one_iff.1 this
              exact hne v rfl
            rw [dif_neg hl]
            exact VR.tuple_of q2
          · rename_i heq; cases heq
        obtain ⟨v, g1, g2⟩ := hend
        rcases hex with rfl | rfl
        · exact ⟨hd1, v, g1, v, μ1, T1, rfl, hp1, g2⟩
        · exact ⟨hd1, v, g1, v, μ1, T1, rfl, hp1, g2⟩
      split at he
      · rename_i env1 h1 n1 hev
        exact fin .normal env1 h1 n1 (.inl rfl) hev he
      · rename_i env1 h1 n1 hev
        exact fin .ret env1 h1 n1 (.inr rfl) hev he
      · cases he

/-- WHAT A CLOSED CALL HANDS BACK -/
theorem closed_call (hm : P.follows .mixedOrders = true) {con : CallT} (hk : CallKp con) (hcon : CallOK P con) {f : Nat} {g : FuncId} {v : Value} (hv : atom 3 v = true) {h' : Mem} {n' : Nat} (he : evCall con P f ⟨0, []⟩ g [] .leaf GLIM = some (v, h', n')) (w : World) :
    Calls P g #[] w (fun e w' => e = .returned v ∧ Below w.heap.size w w') := by
  have hw : WR w w.heap.size (fun g => if g < GLIM then some ⟨g, 0, 0⟩ else none) (fun _ => none) w :=
    ⟨Below.refl _ _, Nat.le_refl _, (fun b o h => by cases h), (fun b o L h => by cases h), (fun g hg => ⟨0, by simp [hg]⟩), (fun b b' o o' L L' h => by cases h), (fun b o L h => by cases h), (fun b es L h => by cases h)⟩
  refine (evCall_sound hm hk hcon f _ _ _ _ _ _ _ _ he w w.heap.size _ _ w [] hw (fun b o h => by rw [look_find] at h; exact absurd h.2 (by simp [Tri.find])) (fun b h1 h2 => ⟨rfl, by simp; omega⟩) VRs.nil).mono ?_
  rintro e w' ⟨r', μ', T', rfl, hp, hr⟩
  rw [atom_eq 3 hv hr]
  exact ⟨rfl, hp.rel.below⟩

end
end Go.Proofs.YtpbnpbmiijgeiaaGreatDoor.Ev
