/- An evaluator of the program's code: what a closed call comes to, by the fast functions. No condition but those of closed_call. -/
import Derived.Test.YtpbnpbmiijgeiaaGreatDoorEvFA
namespace Go.Proofs.YtpbnpbmiijgeiaaGreatDoor.Ev
open Go Go.RowKit

theorem fast_closed {P : Program} (hm : P.follows .mixedOrders = true) {con : CallT} (hk : CallKp con) (hcon : CallOK P con) {f : Nat} {g : FuncId} {v : Value} (hv : atom 3 v = true) {h' : Mem} {n' : Nat} (he : fCall con P f ⟨0, []⟩ g [] .leaf GLIM = some (v, h', n')) (w : World) :
    Calls P g #[] w (fun e w' => e = .returned v ∧ Below w.heap.size w w') :=
  closed_call hm hk hcon hv (by rw [← fCall_eq]; exact he) w

theorem VRs.of_atoms (μ : Mu) {n : Nat} : ∀ {xs : List Value}, xs.all (atom n) = true → VRs μ xs xs
  | [], _ => VRs.nil
  | x :: xs, h => by
    simp only [List.all_cons, Bool.and_eq_true] at h
    exact VRs.cons (atom_refl μ n x h.1) (VRs.of_atoms μ h.2)
/-- a call whose arguments bear no addresses -/
theorem fast_call {P : Program} (hm : P.follows .mixedOrders = true) {con : CallT} (hk : CallKp con) (hcon : CallOK P con) {f : Nat} {g : FuncId} {args : List Value} {v : Value} (ha : args.all (atom 3) = true) (hv : atom 3 v = true) {h' : Mem} {n' : Nat} (he : fCall con P f ⟨0, []⟩ g args .leaf GLIM = some (v, h', n')) (w : World) :
    Calls P g args.toArray w (fun e w' => e = .returned v ∧ Below w.heap.size w w') := by
  have hw : WR w w.heap.size (fun g => if g < GLIM then some ⟨g, 0, 0⟩ else none) (fun _ => none) w :=
    ⟨Below.refl _ _, Nat.le_refl _, (fun b o h => by cases h), (fun b o L h => by cases h), (fun g hg => ⟨0, by simp [hg]⟩), (fun b b' o o' L L' h => by cases h), (fun b o L h => by cases h), (fun b es L h => by cases h)⟩
  rw [fCall_eq] at he
  refine (evCall_sound hm hk hcon f _ _ _ _ _ _ _ _ he w w.heap.size _ _ w args hw (fun b o h => by rw [look_find] at h; exact absurd h.2 (by simp [Tri.find])) (fun b h1 h2 => ⟨rfl, by simp; omega⟩) (VRs.of_atoms _ ha)).mono ?_
  rintro e w' ⟨r', μ', T', rfl, hp, hr⟩
  rw [atom_eq 3 hv hr]
  exact ⟨rfl, hp.rel.below⟩
end Go.Proofs.YtpbnpbmiijgeiaaGreatDoor.Ev
