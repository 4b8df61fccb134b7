/- An evaluator of the program's code, ninth part: literals, made slices, maps, copies, texts. No condition. -/
import Derived.Test.YtpbnpbmiijgeiaaGreatDoorEvH
namespace Go.Proofs.YtpbnpbmiijgeiaaGreatDoor.Ev
open Go Go.RowKit

section
variable {P : Program} {w : World}

theorem foldl_splice (off : Nat) : ∀ (l : List Value) (k : Nat) (cs : List Value), off + k + l.length ≤ cs.length →
    ((l.zipIdx k).foldl (fun (cs : Array Value) (p : Value × Nat) => cs.setIfInBounds (off + p.2) p.1) cs.toArray) = (splice cs (off + k) l).toArray
  | [], k, cs, _ => by
    simp only [List.zipIdx_nil, List.foldl_nil]
    congr 1
    apply List.ext_getElem?
    intro i
    rw [splice_get _ _ _ _ (by simpa using ‹_›)]
    rw [if_neg (by simp)]
  | v :: l, k, cs, h => by
    simp only [List.zipIdx_cons, List.foldl_cons, List.setIfInBounds_toArray]
    simp only [List.length_cons] at h
    rw [foldl_splice off l (k + 1) _ (by simp; omega)]
    congr 1
    apply List.ext_getElem?
    intro i
    rw [splice_get _ _ _ _ (by simp; omega), splice_get _ _ _ _ (by simp; omega)]
    simp only [List.length_cons, List.getElem?_set]
    by_cases h1 : off + (k + 1) ≤ i ∧ i < off + (k + 1) + l.length
    · rw [if_pos h1, if_pos (by omega)]
      rw [show i - (off + k) = (i - (off + (k + 1))) + 1 by omega]
      simp
    · rw [if_neg h1]
      by_cases h2 : off + k = i
      · subst h2
        rw [if_pos rfl, if_pos (by omega), if_pos (by omega)]
        simp
      · rw [if_neg h2, if_neg (by omega)]

theorem aFill_sound {μ : Mu} {place place' : Nat → Option (Nat × Nat)} (hpl : ∀ i p, place i = some p → place' i = some p) : ∀ (parts : List (Nat × Value)) (parts' : List (Nat × Value)) (cs cs' r : List Value),
    parts.map (·.1) = parts'.map (·.1) → VRs μ (parts.map (·.2)) (parts'.map (·.2)) → VRs μ cs cs' → aFill place cs parts = some r → ∃ r', Instr.fill place' cs'.toArray parts' = some r'.toArray ∧ VRs μ r r'
  | [], parts', cs, cs', r, hi, _, hc, he => by
    cases parts' with
    | cons _ _ => simp at hi
    | nil =>
      simp only [aFill, Option.some.injEq] at he
      subst he
      exact ⟨cs', by simp [Instr.fill], hc⟩
  | (i, v) :: rest, parts', cs, cs', r, hi, hv, hc, he => by
    cases parts' with
    | nil => simp at hi
    | cons p rest' =>
      obtain ⟨i', v'⟩ := p
      simp only [List.map_cons, List.cons.injEq] at hi
      obtain ⟨rfl, hi⟩ := hi
      obtain ⟨u, us, e, h1, h2⟩ := hv.uncons
      simp only [List.map_cons, List.cons.injEq] at e
      obtain ⟨rfl, rfl⟩ := e
      rw [aFill] at he
      split at he
      · cases he
      · rename_i off size hp
        cases hb : (Nat.beq v.cells.size size && Nat.ble (off + size) cs.length) with
        | false => simp [hb] at he
        | true =>
        simp only [hb, cond_true] at he
        simp only [Bool.and_eq_true] at hb
        have hs := Tri.beq_true.1 hb.1
        have hl := ble.1 hb.2
        have hs' : v'.cells.size = size := by rw [← h1.cells_size]; exact hs
        have hlv : v.cells.toList.length = size := by simpa using hs
        have hlv' : v'.cells.toList.length = size := by simpa using hs'
        obtain ⟨r', q1, q2⟩ := aFill_sound hpl rest rest' _ _ r hi h2 (hc.splice h1.cells (by show off + v.cells.toList.length ≤ _; omega)) he
        refine ⟨r', ?_, q2⟩
        rw [Instr.fill]
        simp only [hpl _ _ hp]
        rw [if_neg (by simp only [hs', List.size_toArray, ← hc.1]; simp; omega)]
        rw [← q1]
        congr 1
        rw [← Array.foldl_toList, Array.toList_zipIdx]
        have := foldl_splice off v'.cells.toList 0 cs' (by rw [← hc.1]; omega)
        simpa using this

theorem aParts_sound {μ : Mu} {nt : Nat} {env : Env} {a : Act} (ho : ∀ x v, opv env x = some v → VR μ v (a.eval x)) : ∀ (l : List (Nat × Operand)) ps, aParts env l = some ps →
    ps.map (·.1) = (l.map fun p => (p.1, a.eval p.2)).map (·.1) ∧ VRs μ (ps.map (·.2)) ((l.map fun p => (p.1, a.eval p.2)).map (·.2))
  | [], ps, h => by simp only [aParts, Option.some.injEq] at h; subst h; exact ⟨rfl, VRs.nil⟩
  | (i, x) :: r, ps, h => by
    rw [aParts] at h
    split at h
    · rename_i v vs h1 h2
      simp only [Option.some.injEq] at h
      subst h
      obtain ⟨q1, q2⟩ := aParts_sound (nt := nt) ho r vs h2
      exact ⟨by simpa using q1, VRs.cons (ho _ _ h1) q2⟩
    · cases h
theorem opvs_sound {μ : Mu} {env : Env} {a : Act} (ho : ∀ x v, opv env x = some v → VR μ v (a.eval x)) : ∀ (l : List Operand) vs, opvs env l = some vs → VRs μ vs (l.map a.eval)
  | [], vs, h => by simp only [opvs, Option.some.injEq] at h; subst h; exact VRs.nil
  | x :: r, vs, h => by
    rw [opvs] at h
    split at h
    · rename_i v vs' h1 h2
      simp only [Option.some.injEq] at h
      subst h
      exact VRs.cons (ho _ _ h1) (opvs_sound ho r _ h2)
    · cases h

theorem zero_VRs {μ : Mu} {t : TypeId} {z : Value} (h : zeroT P t = some z) : VRs μ z.cells.toList z.cells.toList := (atom_refl μ 3 z (run_zeroT h default).2).cells
theorem flatten_VRs {μ : Mu} {xs : List Value} (h : VRs μ xs xs) (n : Nat) : VRs μ (List.replicate n xs).flatten (List.replicate n xs).flatten := by
  induction n with
  | zero => exact VRs.nil
  | succ n ih => rw [List.replicate_succ, List.flatten_cons]; exact h.append ih

/-- a row of zeros -/
theorem zeros_eq (z : Array Value) (n : Nat) (hz : 1 ≤ z.size) : ((Array.range (n * z.size)).map fun i => z[i % z.size]!) = (List.replicate n z.toList).flatten.toArray := by
  apply Array.ext'
  simp only [Array.toList_map, Array.toList_range]
  induction n with
  | zero => simp
  | succ n ih =>
    rw [Nat.succ_mul, List.range_add, List.map_append, ih, List.replicate_succ', List.flatten_append]
    congr 1
    simp only [List.map_map, List.flatten_cons, List.flatten_nil, List.append_nil]
    apply List.ext_getElem
    · simp
    · intro i h1 h2
      simp at h1 h2
      simp [Nat.mul_add_mod_self_right, Nat.add_mod, Nat.mod_eq_of_lt h1, h1]

theorem run_mapM {α β : Type} {g : α → Sem β} {v : α → β} {w : World} : ∀ (l : List α), (∀ x ∈ l, (g x).run P w = .ok (v x) w) → (l.mapM g).run P w = .ok (l.map v) w
  | [], _ => by simp
  | x :: l, h => by
    rw [List.mapM_cons]
    simp [h x (by simp), run_mapM l (fun y hy => h y (by simp [hy]))]
theorem run_mapMA {α β : Type} {g : α → Sem β} {v : α → β} {w : World} (xs : Array α) (h : ∀ x ∈ xs.toList, (g x).run P w = .ok (v x) w) : (xs.mapM g).run P w = .ok (xs.map v) w := by
  rw [Array.mapM_eq_mapM_toList]
  simp only [Sem.run_map, run_mapM xs.toList h, Result.andThen_ok]
  congr 1
  apply Array.ext'
  simp

theorem aBuild_sound {μ : Mu} {t : TypeId} {ps : List (Nat × Value)} {ps' : List (Nat × Value)} {r : Value} (hi : ps.map (·.1) = ps'.map (·.1)) (hv : VRs μ (ps.map (·.2)) (ps'.map (·.2))) (he : aBuild P t ps = some r) :
    ∃ r', (Instr.build t ps'.toArray).run P w = .ok r' w ∧ VR μ r r' := by
  unfold aBuild at he
  split at he
  case h_2 => cases he
  rename_i z hz ha
  obtain ⟨cs, hf, rfl⟩ := Option.map_eq_some_iff.1 he
  have hzr := (run_zeroT hz w).1
  unfold partsOk at ha
  split at ha
  · rename_i fs hu
    have hall := List.all_eq_true.1 ha
    have hp1 : (fs.mapM fun f => (do pure (f.offset, ← sizeOf f.type) : Sem (Nat × Nat))).run P w = .ok (fs.map fun f => (f.offset, (sizeT P f.type).getD 0)) w := by
      refine run_mapMA fs fun f hf => ?_
      obtain ⟨s, hs⟩ := Option.isSome_iff_exists.1 (hall f hf)
      simp [run_sizeT hs, hs]
    have hp2 : ∀ i p, aPlace P t i = some p → (fs.map fun f => (f.offset, (sizeT P f.type).getD 0))[i]? = some p := by
      intro i p hp
      unfold aPlace at hp
      simp only [hu] at hp
      split at hp
      · rename_i f hf
        obtain ⟨s, hs, rfl⟩ := Option.map_eq_some_iff.1 hp
        simp [hf, hs]
      · cases hp
    obtain ⟨r', q1, q2⟩ := aFill_sound hp2 ps ps' _ _ cs hi hv (zero_VRs (μ := μ) hz) hf
    refine ⟨.agg r'.toArray, ?_, VR.agg_of q2⟩
    unfold Instr.build
    have q3 : Instr.fill (fun x => Option.map (fun f : Field => (f.offset, (sizeT P f.type).getD 0)) fs[x]?) z.cells ps' = some r'.toArray := by
      rw [← q1]
      congr 1
      funext x
      simp
    simp only [Sem.run_bind, hzr, Result.andThen_ok, run_underlying hu, hp1]
    simp [q3]
  · rename_i n e hu
    obtain ⟨s, hs⟩ := Option.isSome_iff_exists.1 ha
    obtain ⟨r', q1, q2⟩ := aFill_sound (place' := fun i => some (i * s, s)) (fun i p hp => by simpa [aPlace, hu, hs] using hp) ps ps' _ _ cs hi hv (zero_VRs (μ := μ) hz) hf
    refine ⟨.agg r'.toArray, ?_, VR.agg_of q2⟩
    simp at q1
    simp [Instr.build, hzr, run_underlying hu, run_sizeT hs, q1]
  · cases ha

end
end Go.Proofs.YtpbnpbmiijgeiaaGreatDoor.Ev
