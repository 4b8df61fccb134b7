/- An evaluator of the program's code, thirteenth part: the operations. No condition. -/
import Derived.Test.YtpbnpbmiijgeiaaGreatDoorEvL
namespace Go.Proofs.YtpbnpbmiijgeiaaGreatDoor.Ev
open Go Go.RowKit

section
variable {P : Program} {w : World} {c : Ctx} {h h' : Mem} {n n' : Nat} {w₀ : World} {N : Nat} {μ : Mu} {T : AMem}

def CallOK (P : Program) (call : CallT) : Prop := ∀ c f args h n r h' n', call c f args h n = some (r, h', n') → ∀ w₀ N μ T w args', WR w₀ N μ T w → View c h T → Fresh μ T n n' → VRs μ args args' →
  Calls P f args'.toArray w (fun e w' => ∃ r' μ' T', e = .returned r' ∧ Post c h' n n' w₀ N μ T μ' T' w' ∧ VR μ' r r')

def Does (P : Program) (c : Ctx) (h' : Mem) (n n' : Nat) (w₀ : World) (N : Nat) (μ : Mu) (T : AMem) (w : World) (r : Value) (o : Oper) (a : Act) : Prop :=
  ∀ (K : Act → World → Prop) (Q : Exit → Act → World → Prop), (∀ μ' T' w' r', Post c h' n n' w₀ N μ T μ' T' w' → VR μ' r r' → K (a.put o.dst r') w') → o.wp P a w K Q

theorem does_gives {r : Value} {o : Oper} {a : Act} {s : Sem Value} (hex : execOp a.eval o = (do pure (.value (← s)))) (g : Gives P c h' n n' w₀ N μ T w r s) : Does P c h' n n' w₀ N μ T w r o a := by
  intro K Q hK
  obtain ⟨r', w', μ', T', hrun, hp, hr⟩ := g
  unfold Oper.wp
  rw [hex]
  simp only [Sem.run_bind, hrun, Result.andThen_ok, Sem.run_pure, Oper.upon]
  exact hK _ _ _ _ hp hr

theorem does_unit {o : Oper} {a : Act} {s : Sem Unit} {w' : World} {μ' : Mu} {T' : AMem} (hex : execOp a.eval o = (do s; pure .skip)) (hrun : s.run P w = .ok () w') (hp : Post c h' n n' w₀ N μ T μ' T' w') :
    Does P c h' n n' w₀ N μ T w undef o a := by
  intro K Q hK
  unfold Oper.wp
  rw [hex]
  simp only [Sem.run_bind, hrun, Result.andThen_ok, Sem.run_pure, Oper.upon]
  exact hK _ _ _ _ hp VR.undef

/-- an operation that only hands back a value -/
theorem gives_same {r r' : Value} {s : Sem Value} (hw : WR w₀ N μ T w) (hv : View c h T) (hrun : s.run P w = .ok r' w) (hr : VR μ r r') : Gives P c h n n w₀ N μ T w r s :=
  ⟨r', w, μ, T, hrun, Post.refl hw hv, hr⟩

theorem opv_sound {nt : Nat} {env : Env} {a : Act} (hw : WR w₀ N μ T w) (her : ER μ nt env a) (x : Operand) (v : Value) (he : opv env x = some v) : VR μ v (a.eval x) := by
  cases x with
  | tmp t =>
    simp only [opv, Option.some.injEq] at he
    subst he
    exact her.val t
  | const u =>
    simp only [opv] at he
    cases ha : atom 3 u with
    | false => simp [ha] at he
    | true =>
      simp only [ha, cond_true, Option.some.injEq] at he
      subst he
      exact atom_refl μ 3 u ha
  | global g =>
    simp only [opv] at he
    cases hb : Nat.ble (g + 1) GLIM with
    | false => simp [hb] at he
    | true =>
      simp only [hb, cond_true, Option.some.injEq] at he
      subst he
      obtain ⟨e, hg⟩ := hw.gl g (by have := ble.1 hb; omega)
      exact .ptr g 0 _ hg
  | func f =>
    simp only [opv, Option.some.injEq] at he
    subst he
    exact .func _ _ _ _ _ rfl rfl (fun i p _ => by simp at p) (fun i p _ => by simp at p)

theorem opt_sound {nt : Nat} {env : Env} {a : Act} (hw : WR w₀ N μ T w) (her : ER μ nt env a) (x : Option Operand) (v : Option Value) (he : opt env x = some v) : OVR μ v (x.map a.eval) := by
  cases x with
  | none => simp only [opt, Option.some.injEq] at he; subst he; trivial
  | some x =>
    simp only [opt] at he
    obtain ⟨u, hu, rfl⟩ := Option.map_eq_some_iff.1 he
    exact opv_sound hw her x u hu

end
end Go.Proofs.YtpbnpbmiijgeiaaGreatDoor.Ev
