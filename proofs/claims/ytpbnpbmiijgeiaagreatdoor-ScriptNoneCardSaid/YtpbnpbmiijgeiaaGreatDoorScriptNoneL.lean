/- The law ScriptNone, evaluated: it returns true whatever the operations. No condition. -/
import Derived.Test.YtpbnpbmiijgeiaaGreatDoorEvCn
namespace Go.Proofs.YtpbnpbmiijgeiaaGreatDoor.Ev
open Go Go.RowKit
/-- names of a call with one slice that nobody looks into -/
def muAt (b o : Nat) : Mu := fun g => if g < GLIM then some ⟨g, 0, 0⟩ else if g = GLIM then some ⟨b, o, 0⟩ else none
theorem fast_call_at {P : Program} (hm : P.follows .mixedOrders = true) {con : CallT} (hk : CallKp con) (hcon : CallOK P con) {f : Nat} {g : FuncId} {args args' : List Value} {v : Value} (b o : Nat) (ha : VRs (muAt b o) args args') (hv : atom 3 v = true) {h' : Mem} {n' : Nat} (he : fCall con P f ⟨0, []⟩ g args .leaf (GLIM + 1) = some (v, h', n')) (w : World) :
    Calls P g args'.toArray w (fun e w' => e = .returned v ∧ Below w.heap.size w w') := by
  have hw : WR w w.heap.size (muAt b o) (fun _ => none) w :=
    ⟨Below.refl _ _, Nat.le_refl _, (fun b o h => by cases h), (fun b o L h => by cases h), (fun g hg => ⟨0, by simp [muAt, hg]⟩), (fun b b' o o' L L' h => by cases h), (fun b o L h => by cases h), (fun b es L h => by cases h)⟩
  rw [fCall_eq] at he
  refine (evCall_sound hm hk hcon f _ _ _ _ _ _ _ _ he w w.heap.size _ _ w args' hw (fun b o h => by rw [look_find] at h; exact absurd h.2 (by simp [Tri.find])) (fun b h1 h2 => ⟨rfl, by unfold muAt; rw [if_neg (by omega), if_neg (by omega)]⟩) ha).mono ?_
  rintro e w' ⟨r', μ', T', rfl, hp, hr⟩
  rw [atom_eq 3 hv hr]
  exact ⟨rfl, hp.rel.below⟩
theorem lives_true : saysTrue (fCall conAll Tryz.prog 100 ⟨0, []⟩ 8 [] .leaf GLIM) = true := by kernel_rfl
theorem lives_calls (w : World) : Calls Tryz.prog 8 #[] w (fun e w' => e = .returned (.bool true) ∧ Below w.heap.size w w') := by
  obtain ⟨h', n', he⟩ := saysTrue_some lives_true
  exact fast_closed mixed_all conAll_keeps conAll_ok rfl he w
noncomputable def conL : ConT := fun g args => bif Nat.beq g 8 && args.isEmpty then some (.bool true) else none
theorem conL_ok : ConOK Tryz.prog conL := by
  intro g args v h
  unfold conL at h
  cases hb : (Nat.beq g 8 && args.isEmpty) with
  | false => simp [hb] at h
  | true =>
    simp only [hb, cond_true, Option.some.injEq] at h
    simp only [Bool.and_eq_true, List.isEmpty_iff] at hb
    obtain ⟨h1, rfl⟩ := hb
    obtain rfl := Nat.eq_of_beq_eq_true h1
    subst h
    exact ⟨rfl, lives_calls⟩
noncomputable def conB : CallT := orCall (liftCon conL) conAll
theorem conB_keeps : CallKp conB := orCall_keeps (liftCon_keeps _) conAll_keeps
theorem conB_ok : CallOK Tryz.prog conB := orCall_ok (liftCon_ok conL_ok) conAll_ok
theorem law_true (l c : Nat) : saysTrue (fCall conB Tryz.prog 100 ⟨0, []⟩ 3 [.slice (some ⟨4096, 0, none⟩) l c] .leaf (GLIM + 1)) = true := by kernel_rfl
theorem law_true0 : saysTrue (fCall conB Tryz.prog 100 ⟨0, []⟩ 3 [.slice none 0 0] .leaf GLIM) = true := by kernel_rfl
theorem law_nil (w : World) : Calls Tryz.prog 3 #[.slice none 0 0] w (fun e w' => e = .returned (.bool true) ∧ Below w.heap.size w w') := by
  obtain ⟨h', n', he⟩ := saysTrue_some law_true0
  exact fast_call mixed_all conB_keeps conB_ok rfl rfl he w
theorem law_some (b o : Nat) (s : Option Nat) (l c : Nat) (hl : l ≤ c) (hc : c < OPEN) (hs : c ≠ 0 → s = none) (w : World) : Calls Tryz.prog 3 #[.slice (some ⟨b, o, s⟩) l c] w (fun e w' => e = .returned (.bool true) ∧ Below w.heap.size w w') := by
  obtain ⟨h', n', he⟩ := saysTrue_some (law_true l c)
  refine fast_call_at mixed_all conB_keeps conB_ok b o (VRs.cons (.sl 4096 0 l c ⟨b, o, 0⟩ _ ?_ hl hc fun h => ?_) VRs.nil) rfl he w
  · unfold muAt; rw [if_neg (by decide), if_pos (show (4096 : Nat) = GLIM from rfl)]
  · rw [hs h]; rfl
end Go.Proofs.YtpbnpbmiijgeiaaGreatDoor.Ev
