/- An evaluator of the program's code, seventh part: parts of slices. No condition. -/
import Derived.Test.YtpbnpbmiijgeiaaGreatDoorEvF
namespace Go.Proofs.YtpbnpbmiijgeiaaGreatDoor.Ev
open Go Go.RowKit

section
variable {P : Program} {w : World}

/-- operands that may be missing -/
def OVR (μ : Mu) : Option Value → Option Value → Prop
  | none, none => True
  | some v, some v' => VR μ v v'
  | _, _ => False

theorem run_bounds {lo hi mx : Option Value} {len cap l h m : Nat} (isS : Bool) (hl : (lo = none ∧ l = 0) ∨ ∃ k, lo = some (.int k (l : Int)))
    (hh : (hi = none ∧ mx = none ∧ h = len) ∨ ∃ k, hi = some (.int k (h : Int))) (hm : (mx = none ∧ m = cap) ∨ ∃ k, mx = some (.int k (m : Int)))
    (h1 : l ≤ h) (h2 : h ≤ m) (h3 : m ≤ cap) : (Instr.sliceBounds isS len cap lo hi mx).run P w = .ok (l, h, m) w := by
  have i1 : (l : Int) ≤ h := by omega
  have i2 : (h : Int) ≤ m := by omega
  have i3 : (m : Int) ≤ cap := by omega
  rcases hm with ⟨rfl, rfl⟩ | ⟨k3, rfl⟩
  · rcases hh with ⟨rfl, _, rfl⟩ | ⟨k2, rfl⟩
    · rcases hl with ⟨rfl, rfl⟩ | ⟨k1, rfl⟩
      · simp [Instr.sliceBounds]
      · simp [Instr.sliceBounds, Instr.sliceBound, asIntOf, h1]
    · rcases hl with ⟨rfl, rfl⟩ | ⟨k1, rfl⟩
      · simp [Instr.sliceBounds, Instr.sliceBound, asIntOf, h2]
      · simp [Instr.sliceBounds, Instr.sliceBound, asIntOf, h1, h2]
  · rcases hh with ⟨_, e, _⟩ | ⟨k2, rfl⟩
    · cases e
    · rcases hl with ⟨rfl, rfl⟩ | ⟨k1, rfl⟩
      · simp [Instr.sliceBounds, Instr.sliceBound, asIntOf, h2, h3]
      · simp [Instr.sliceBounds, Instr.sliceBound, asIntOf, h1, h2, h3]

theorem lo_some {μ : Mu} {lo lo' : Option Value} {l : Nat} (h : (match lo with | none => some 0 | some x => natOf x) = some l) (hv : OVR μ lo lo') :
    (lo' = none ∧ l = 0) ∨ ∃ k, lo' = some (.int k (l : Int)) := by
  cases lo with
  | none =>
    cases lo' with
    | none => simp at h; exact .inl ⟨rfl, h.symm⟩
    | some _ => exact hv.elim
  | some x =>
    cases lo' with
    | none => exact hv.elim
    | some x' =>
      obtain ⟨k, _, rfl⟩ := natOf_some h hv
      exact .inr ⟨k, rfl⟩
theorem hi_some {μ : Mu} {hi hi' : Option Value} {len l : Nat} (h : (match hi with | none => some len | some x => natOf x) = some l) (hv : OVR μ hi hi') :
    (hi' = none ∧ l = len) ∨ ∃ k, hi' = some (.int k (l : Int)) := by
  cases hi with
  | none =>
    cases hi' with
    | none => simp at h; exact .inl ⟨rfl, h.symm⟩
    | some _ => exact hv.elim
  | some x =>
    cases hi' with
    | none => exact hv.elim
    | some x' =>
      obtain ⟨k, _, rfl⟩ := natOf_some h hv
      exact .inr ⟨k, rfl⟩

/-- what the model makes of a part of a slice at an address -/
def cutOf (a : Addr) (s l h m : Nat) : Value := .slice (some (if m = l then a else a.add (l * s))) (h - l) (m - l)

/-- THE PART OF A SLICE: there are bounds, in order, and what comes out belongs together -/
theorem aSlice_sound {μ : Mu} {s : Nat} {a : Addr} {len cap' : Nat} {v r : Value} {lo hi mx lo' hi' mx' : Option Value} (hx : VR μ v (.slice (some a) len cap')) (h1 : OVR μ lo lo') (h2 : OVR μ hi hi') (h3 : OVR μ mx mx')
    (he : aSlice s v lo hi mx = some r) : ∃ l h m, (∀ isS, (Instr.sliceBounds isS len cap' lo' hi' mx').run P w = .ok (l, h, m) w) ∧ VR μ r (cutOf a s l h m) := by
  unfold aSlice at he
  split at he
  case h_3 => cases he
  case h_2 => cases hx
  rename_i b o len0 cap
  simp only [] at he
  split at he
  case h_2 => cases he
  rename_i l h el eh
  have Hl := lo_some el h1
  have Hh := hi_some eh h2
  have key : ∃ L u q, μ b = some L ∧ len0 = len ∧ len ≤ q ∧ q < OPEN ∧ cap / OPEN = u ∧ cap % OPEN = q ∧ q ≤ cap' ∧ (u = 0 → cap' = q ∧ (q ≠ 0 → a = ⟨L.blk, L.off + o, none⟩)) ∧ (u ≠ 0 → cap' ≠ 0 → a = ⟨L.blk, L.off + o, none⟩ ∧ o + cap' * u ≤ L.ext) := by
    cases hx with
    | sl _ _ _ _ L _ hL hl hc ha =>
      exact ⟨L, 0, cap', hL, rfl, hl, hc, Nat.div_eq_of_lt hc, Nat.mod_eq_of_lt hc, Nat.le_refl _, fun _ => ⟨rfl, ha⟩, fun e => absurd rfl e⟩
    | slo _ _ _ q u L _ _ hL hl hc hu hb ha =>
      refine ⟨L, u, q, hL, rfl, hl, hb, ?_, ?_, hc, fun e => by omega, fun _ => ha⟩
      · rw [Nat.mul_add_div (by unfold OPEN; omega), Nat.div_eq_of_lt hb]; omega
      · rw [Nat.mul_add_mod, Nat.mod_eq_of_lt hb]
  obtain ⟨L, u, q, hL, rfl, hlq, hq, hu, hqq, hqc, hex, hop⟩ := key
  rw [hu, hqq] at he
  have addr : ∀ m, m ≤ q → l ≤ m → (m - l ≠ 0 → a = ⟨L.blk, L.off + o, none⟩) → (m - l ≠ 0 → (if m = l then a else a.add (l * s)) = ⟨L.blk, L.off + (bif Nat.beq m l then o else o + l * s), none⟩) := by
    intro m _ hlm ha hne
    have hml : m ≠ l := by omega
    have hb : Nat.beq m l = false := by
      cases hb : Nat.beq m l with
      | false => rfl
      | true => exact absurd (Tri.beq_true.1 hb) hml
    rw [if_neg hml, ha hne, add_mid, hb]
    simp [Nat.add_assoc]
  cases mx with
  | none =>
    cases mx' with
    | some _ => exact h3.elim
    | none =>
    simp only [] at he
    cases hb : (Nat.ble l h && Nat.ble h q) with
    | false => simp [hb] at he
    | true =>
    simp only [hb, cond_true] at he
    simp only [Bool.and_eq_true] at hb
    have hlh := ble.1 hb.1
    have hhq := ble.1 hb.2
    refine ⟨l, h, cap', fun isS => run_bounds isS Hl (by rcases Hh with ⟨e1, e2⟩ | e; exact .inl ⟨e1, rfl, e2⟩; exact .inr e) (.inl ⟨rfl, rfl⟩) hlh (by omega) (Nat.le_refl _), ?_⟩
    cases hu0 : Nat.beq u 0 with
    | true =>
      simp only [hu0, cond_true, Option.some.injEq] at he
      subst he
      obtain ⟨hcq, haa⟩ := hex (Tri.beq_true.1 hu0)
      rw [hcq]
      exact .sl _ _ _ _ L _ hL (by omega) (by omega) (addr q (Nat.le_refl _) (by omega) (fun hne => haa (by omega)))
    | false =>
      simp only [hu0, cond_false] at he
      have hu1 : u ≠ 0 := fun e => by rw [e] at hu0; cases hu0
      cases hus : Nat.beq u s with
      | false => simp [hus] at he
      | true =>
      simp only [hus, cond_true, Option.some.injEq] at he
      have hus' : u = s := Tri.beq_true.1 hus
      subst he
      refine .slo _ _ _ (q - l) u L _ (cap' - l) hL (by omega) (by omega) (by omega) (by omega) (fun hne => ?_)
      obtain ⟨ha, hext⟩ := hop hu1 (by omega)
      have hml : cap' ≠ l := by omega
      rw [if_neg hml, ha, add_mid]
      refine ⟨by simp [Nat.add_assoc], ?_⟩
      rw [← hus', Nat.sub_mul]
      have : l * u ≤ cap' * u := Nat.mul_le_mul_right u (by omega)
      omega
  | some x =>
    cases mx' with
    | none => exact h3.elim
    | some x' =>
    simp only [] at he
    cases hm : natOf x with
    | none => simp [hm] at he
    | some m =>
    simp only [hm] at he
    obtain ⟨k, _, rfl⟩ := natOf_some hm h3
    cases hb : (hi.isSome && (Nat.ble l h && (Nat.ble h m && Nat.ble m q))) with
    | false => simp [hb] at he
    | true =>
    simp only [hb, cond_true, Option.some.injEq] at he
    simp only [Bool.and_eq_true] at hb
    obtain ⟨hs, hb1, hb2, hb3⟩ := hb
    have hlh := ble.1 hb1
    have hhm := ble.1 hb2
    have hmq := ble.1 hb3
    subst he
    have Hh' : ∃ k, hi' = some (.int k (h : Int)) := by
      rcases Hh with ⟨e1, _⟩ | e
      · cases hi with
        | none => cases hs
        | some _ => subst e1; exact h2.elim
      · exact e
    refine ⟨l, h, m, fun isS => run_bounds isS Hl (.inr Hh') (.inr ⟨k, rfl⟩) hlh hhm (by omega), ?_⟩
    refine .sl _ _ _ _ L _ hL (by omega) (by omega) (addr m hmq (by omega) (fun hne => ?_))
    rcases Nat.eq_zero_or_pos u with e | e
    · exact (hex e).2 (by omega)
    · exact (hop (by omega) (by omega)).1

theorem aSlice_nil {μ : Mu} {s : Nat} {v r : Value} {lo hi mx lo' hi' mx' : Option Value} {len cap' : Nat} (hx : VR μ v (.slice none len cap')) (h1 : OVR μ lo lo') (h2 : OVR μ hi hi') (h3 : OVR μ mx mx')
    (he : aSlice s v lo hi mx = some r) : (∀ isS, (Instr.sliceBounds isS len cap' lo' hi' mx').run P w = .ok (0, 0, 0) w) ∧ r = .slice none 0 0 := by
  cases hx
  unfold aSlice at he
  split at he
  case h_3 => cases he
  case h_1 h => cases h
  rename_i heq
  cases heq
  simp only [] at he
  split at he
  case h_2 => cases he
  rename_i el eh
  cases mx' with
  | some _ => exact h3.elim
  | none =>
  have Hl := lo_some el h1
  have Hh := hi_some eh h2
  simp only [Option.some.injEq] at he
  exact ⟨fun isS => run_bounds isS Hl (by rcases Hh with ⟨e1, e2⟩ | e; exact .inl ⟨e1, rfl, e2⟩; exact .inr e) (.inl ⟨rfl, rfl⟩) (Nat.le_refl _) (Nat.le_refl _) (Nat.le_refl _), he.symm⟩

theorem aSliceAt_sound {μ : Mu} {t : TypeId} {x x' r : Value} {lo hi mx lo' hi' mx' : Option Value} (hx : VR μ x x') (h1 : OVR μ lo lo') (h2 : OVR μ hi hi') (h3 : OVR μ mx mx') (he : aSliceAt P t x lo hi mx = some r) :
    ∃ r', (Instr.sliceAt t x' lo' hi' mx').run P w = .ok r' w ∧ VR μ r r' := by
  have arr : ∀ {n s : Nat}, aSliceArr n s x lo hi mx = some r → ∃ a l h m, x' = .pointer (some a) ∧ (∀ isS, (Instr.sliceBounds isS n n lo' hi' mx').run P w = .ok (l, h, m) w) ∧ VR μ r (cutOf a s l h m) := by
    intro n s hs
    unfold aSliceArr at hs
    split at hs
    case h_2 => cases hs
    rename_i b o
    cases hb : Nat.ble (n + 1) OPEN with
    | false => simp [hb] at hs
    | true =>
    simp only [hb, cond_true] at hs
    have hn := ble.1 hb
    cases hx with
    | ptr _ _ L hL =>
    obtain ⟨l, h, m, q1, q2⟩ := aSlice_sound (P := P) (w := w) (a := ⟨L.blk, L.off + o, none⟩) (len := n) (cap' := n) (.sl b o n n L _ hL (Nat.le_refl _) (by omega) (fun _ => rfl)) h1 h2 h3 hs
    exact ⟨_, l, h, m, rfl, q1, q2⟩
  unfold aSliceAt at he
  split at he
  · rename_i n e hu
    split at he
    case h_2 => cases he
    rename_i s hs
    obtain ⟨a, l, h, m, rfl, q1, q2⟩ := arr he
    exact ⟨_, by simp [Instr.sliceAt, run_underlying hu, Instr.sureAddr, q1, run_sizeT hs]; rfl, q2⟩
  · rename_i e hu
    split at he
    case h_2 => cases he
    rename_i s hs
    cases x' with
    | slice base len cap' =>
      cases base with
      | none =>
        obtain ⟨q1, rfl⟩ := aSlice_nil (P := P) (w := w) hx h1 h2 h3 he
        exact ⟨.slice none 0 0, by simp [Instr.sliceAt, Instr.slice, run_underlying hu, q1, run_sizeT hs], .nils⟩
      | some a =>
        obtain ⟨l, h, m, q1, q2⟩ := aSlice_sound (P := P) (w := w) hx h1 h2 h3 he
        refine ⟨_, ?_, q2⟩
        simp only [Instr.sliceAt, Sem.run_bind, run_underlying hu, Result.andThen_ok, Instr.slice, q1, run_sizeT hs, Sem.run_pure, cutOf]
        split <;> rfl
    | _ =>
      exfalso
      unfold aSlice at he
      cases hx <;> simp at he
  · rename_i arr' hu
    split at he
    case h_2 => cases he
    rename_i n e hu2
    split at he
    case h_2 => cases he
    rename_i s hs
    obtain ⟨a, l, h, m, rfl, q1, q2⟩ := arr he
    exact ⟨_, by simp [Instr.sliceAt, Instr.slice, run_underlying hu, run_underlying hu2, asAddr, q1, run_sizeT hs]; rfl, q2⟩
  · cases he

end
end Go.Proofs.YtpbnpbmiijgeiaaGreatDoor.Ev
