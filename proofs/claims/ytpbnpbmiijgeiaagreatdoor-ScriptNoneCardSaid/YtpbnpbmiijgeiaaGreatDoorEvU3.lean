/- An evaluator of the program's code, twenty-first part, third text: regions that draw their order: what holds, and what an operation finds. No condition. -/
import Derived.Test.YtpbnpbmiijgeiaaGreatDoorEvU2
namespace Go.Proofs.YtpbnpbmiijgeiaaGreatDoor.Ev
open Go Go.RowKit

/-- what holds in whatever state, when the operations L have been carried out: T is the memory without the stores of L behind p -/
structure Inv (c : Ctx) (nt m0 : Nat) (all : List Oper) (r : Run) (w₀ : World) (N : Nat) (μ0 : Mu) (T0 : AMem) (d0 : List Deferred)
    (L : Nat → Bool) (p : Nat) (μ : Mu) (T : AMem) (a : Act) (w : World) : Prop where
  rel : WR w₀ N μ (app (pwOf all r.E) L p all.length T) w
  er : ER μ nt (EL all (r.E 0) r.R L all.length) a
  dfr : a.defers = d0
  segA : ∀ b o, b < r.M p → look c (r.H p) b = some o → T b = some o
  segB : ∀ i, p ≤ i → i < all.length → L i = true → ∀ b o, r.M i ≤ b → b < r.M (i + 1) → look c (r.H (i + 1)) b = some o → T b = some o
  fresh : ∀ i, i < all.length → L i = false → ∀ b, r.M i ≤ b → b < r.M (i + 1) → T b = none ∧ μ b = none
  mu : ∀ b, ¬(r.M 0 ≤ b ∧ b < r.M all.length) → μ b = μ0 b
  keep : ∀ b, (b < r.M 0 ∧ (b < c.lo ∨ inBan c.ban b = true)) ∨ r.M all.length ≤ b → T b = T0 b
  cl : ∀ i, i < all.length → L i = true → ∀ j, ahead (masks all []) i j → L j = true
  ple : p ≤ all.length
  p1 : ∀ i, i < p → cls all r.E i ≠ 0 → cls all r.E i ≠ 2 → L i = true
  p1' : ∀ i, i < p → cls all r.E i = 2 → L i = true ∨ (qOf all r.E i ≠ 0 ∧ qOf all r.E i ≤ m0)
  p2 : ∀ i, p ≤ i → i < all.length → 4 ≤ cls all r.E i → L i = false

theorem others_nil_ban {m : Nat} {l : List (Nat × Nat × Nat)} {ws : List (Nat × Nat × Nat × Nat)} {bn : List (Nat × Nat)} {b : Nat} (h : inBan (others m l ++ (bansW m ws ++ bn)) b = false) :
    inBan (others m l) b = false ∧ inBan (bansW m ws) b = false ∧ inBan bn b = false := by
  rw [inBan_append, inBan_append] at h
  simpa [Bool.or_eq_false_iff] using h

section
variable {call : CallT} {P : Program} {c : Ctx} {nt m0 : Nat} {all : List Oper} {r : Run}
  {w₀ : World} {N : Nat} {μ0 : Mu} {T0 : AMem} {d0 : List Deferred}

/-- the block of a load, whatever has been listed -/
theorem draw_mem (lex : Lex call P c nt all (masks all []) m0 0 all.length r) (hI : r.I 0 = []) (hW : r.W 0 = []) (h0 : r.M 0 = m0) (hck : CallKp call) (ok : OkD all) (hv0 : View c (r.H 0) T0) (hf0 : Fresh μ0 T0 (r.M 0) (r.M all.length))
    {L : Nat → Bool} {p : Nat} {μ : Mu} {T : AMem} {a : Act} {w : World} (inv : Inv c nt m0 all r w₀ N μ0 T0 d0 L p μ T a w) {k : Nat} (hkl : k < all.length) (hL : L k = false)
    (hready : ∀ j, ahead (masks all []) k j → L j = true) {b : Nat} {o : AObj}
    (hlo : look ⟨0, others ((masks all []).getD k 0) (r.I k) ++ (bansW ((masks all []).getD k 0) (r.W k) ++ c.ban)⟩ (r.H k) b = some o)
    (hlate : ∀ i, k < i → i < all.length → L i = true → ¬ Hits (pwOf all r.E) i b)
    (hk0 : cls all r.E k ≠ 0) (hcl : b < m0 ∨
      p ≤ k ∧ ∀ i, p ≤ i → i < k → cls all r.E i ≤ 3) : app (pwOf all r.E) L p all.length T b = some o := by
  have hmono : ∀ {i j}, i ≤ j → j ≤ all.length → r.M i ≤ r.M j := fun h1 h2 => lex_mono lex h1 h2
  have memb := lex_memb lex hI hW k (by omega)
  rw [look_find] at hlo
  obtain ⟨hban, hfind⟩ := hlo
  obtain ⟨hb1, hb2, hb3⟩ := others_nil_ban hban
  have hbit : ∀ i, L i = false → Nat.testBit ((masks all []).getD k 0) i = false := by
    intro i hLi
    cases hbt : Nat.testBit ((masks all []).getD k 0) i with
    | false => rfl
    | true => have := hready i hbt; rw [hLi] at this; cases this
  -- the stores before k on b have been listed
  have hearly : ∀ i, i < k → Hits (pwOf all r.E) i b → L i = true := by
    rintro i hik ⟨off, xs, hpw⟩
    cases hLi : L i with
    | true => rfl
    | false =>
      have := bansW_ban (memb.w1 i hik b off xs hpw) (hbit i hLi)
      rw [hb2] at this; cases this
  have hpw0 : ∀ i, i < all.length → Hits (pwOf all r.E) i b → b < m0 := by
    rintro i hi ⟨off, xs, hpw⟩
    exact (lex_store lex hi hpw).lt
  -- where p isn't behind k
  have fwd : p ≤ k → fw (pwOf all r.E) L b p (all.length - p) (T b) = fw (pwOf all r.E) (fun _ => true) b p (k - p) (T b) := by
    intro hpk
    rw [fw_trunc (k - p) (all.length - p) (T b) (by omega) (fun i h1 h2 hh => by
      cases hLi : L i with
      | false => rfl
      | true =>
        by_cases e : i = k
        · subst e; rw [hL] at hLi; cases hLi
        · exact absurd hh (hlate i (by omega) (by omega) hLi))]
    exact fw_congr (k - p) (T b) (fun i h1 h2 hh => hearly i (by omega) hh)
  -- where the block was there at p
  have old : p ≤ k → b < r.M p → (r.H k).find b = fw (pwOf all r.E) (fun _ => true) b p (k - p) ((r.H p).find b) → app (pwOf all r.E) L p all.length T b = some o := by
    intro hpk hbp hH
    unfold app
    rw [fwd hpk]
    cases hp : (r.H p).find b with
    | none => rw [hp, fw_none] at hH; rw [hfind] at hH; cases hH
    | some o' =>
      have := inv.segA b o' hbp (look_find.2 ⟨hb3, hp⟩)
      rw [this, ← hp, ← hH, hfind]
  rcases hcl with hbm | ⟨hpk, hno⟩
  · have hnoal : ∀ i, p ≤ i → i < k → cls all r.E i ≤ 4 := by
      intro i h1 h2
      rcases Nat.lt_or_ge (cls all r.E i) 5 with h | h
      · omega
      · exfalso
        have h5 : cls all r.E i = 5 := by have := @cls_le5 all r.E i; omega
        have := hready i (tied_lt ok (tied_5 h5 hk0 (by omega)) h2)
        rw [inv.p2 i h1 (by omega) (by omega)] at this; cases this
    rcases Nat.lt_or_ge k p with hkp | hpk
    · -- p is behind k
      have hseg : (r.H (k + (p - k))).find b = fw (pwOf all r.E) (fun _ => true) b k (p - k) ((r.H k).find b) := by
        refine lex_segOld lex hck h0 (p - k) (by have := inv.ple; omega) (fun i h1 h2 => ?_) b hbm
        rcases Nat.lt_or_ge (cls all r.E i) 5 with h | h
        · omega
        · exfalso
          have h5 : cls all r.E i = 5 := by have := @cls_le5 all r.E i; omega
          by_cases e : i = k
          · subst e
            have := inv.p1 i hkp (by omega) (by omega)
            rw [hL] at this; cases this
          · have hil : i < all.length := by have := inv.ple; omega
            have h6 := tied_gt ok (tied_5 h5 hk0 (fun q => e q.symm)) (by omega)
            have h7 := inv.p1 i (by omega) (by omega) (by omega)
            have := inv.cl i hil h7 k h6
            rw [hL] at this; cases this
      rw [show k + (p - k) = p by omega] at hseg
      rw [fw_id (p - k) _ (fun i h1 h2 _ hh => by
        by_cases e : i = k
        · subst e
          obtain ⟨_, _, hpw⟩ := hh
          have hc1 := pw_cls hpw
          have := inv.p1 i hkp (by omega) (by omega)
          rw [hL] at this; cases this
        · obtain ⟨x1, x2, hpw⟩ := id hh
          have hc1 := pw_cls hpw
          exact hlate i (by omega) (by have := inv.ple; omega) (inv.p1 i (by omega) (by omega) (by omega)) hh)] at hseg
      unfold app
      rw [fw_id (all.length - p) _ (fun i h1 h2 hs hh => hlate i (by omega) (by omega) hs hh)]
      exact inv.segA b o (Nat.lt_of_lt_of_le (by rw [h0]; exact hbm) (hmono (Nat.zero_le p) inv.ple)) (look_find.2 ⟨hb3, by rw [hseg]; exact hfind⟩)
    · refine old hpk (Nat.lt_of_lt_of_le (by rw [h0]; exact hbm) (hmono (Nat.zero_le p) inv.ple)) ?_
      have := lex_segOld lex hck h0 (p := p) (k - p) (by omega) (fun i h1 h2 => hnoal i h1 (by omega)) b hbm
      rwa [show p + (k - p) = k by omega] at this
  · rcases Nat.lt_or_ge b (r.M p) with h1 | h1
    · refine old hpk h1 ?_
      have := lex_seg lex hck (p := p) (k - p) (by omega) (fun i h1 h2 => hno i h1 (by omega)) b h1
      rwa [show p + (k - p) = k by omega] at this
    · have hbm : ¬ b < m0 := by have := hmono (Nat.zero_le p) inv.ple; omega
      have hnh : ∀ i, i < all.length → ¬ Hits (pwOf all r.E) i b := fun i hi hh => hbm (hpw0 i hi hh)
      have happ : app (pwOf all r.E) L p all.length T b = T b := by
        unfold app
        exact fw_id _ _ (fun i h1 h2 _ => hnh i (by omega))
      rw [happ]
      rcases Nat.lt_or_ge b (r.M k) with h2 | h2
      · obtain ⟨i, q1, q2, q3, q4⟩ := lex_locate (all := all) k hpk (by omega) h1 h2
        cases hLi : L i with
        | true =>
          have := lex_seg lex hck (p := i + 1) (k - (i + 1)) (by omega) (fun j g1 g2 => hno j (by omega) (by omega)) b q4
          rw [show i + 1 + (k - (i + 1)) = k by omega, fw_id _ _ (fun j g1 g2 _ => hnh j (by omega))] at this
          rw [this] at hfind
          exact inv.segB i q1 (by omega) hLi b o q3 q4 (look_find.2 ⟨hb3, hfind⟩)
        | false =>
          have := others_ban (memb.i1 i q2 (lex_names lex (by omega) q3 q4)) (hbit i hLi) q3 q4
          rw [hb1] at this; cases this
      · rw [lex_hi lex hck k (by omega) b h2] at hfind
        have h3 := hv0 b o (look_find.2 ⟨hb3, hfind⟩)
        rcases Nat.lt_or_ge b (r.M all.length) with h4 | h4
        · have := (hf0 b (Nat.le_trans (hmono (Nat.zero_le k) (by omega)) h2) h4).1
          rw [this] at h3; cases h3
        · rw [inv.keep b (.inr h4)]; exact h3

/-- a store's block at p bears no link -/
theorem link0 (lex : Lex call P c nt all (masks all []) m0 0 all.length r) (h0 : r.M 0 = m0) (hck : CallKp call) {p b : Nat} {cs0 : List Value} {lk0 : Option Nat} (hp : (r.H p).find b = some (.cells cs0 lk0)) :
    ∀ n, p + n < all.length → (∀ i, p ≤ i → i < p + n → cls all r.E i ≤ 4) → Hits (pwOf all r.E) (p + n) b → lk0 = none := by
  intro n
  induction n using Nat.strongRecOn with
  | _ n ih =>
    intro hlen hno hhit
    by_cases hex : ∃ i, p ≤ i ∧ i < p + n ∧ Hits (pwOf all r.E) i b
    · obtain ⟨i, h1, h2, h3⟩ := hex
      refine ih (i - p) (by omega) (by omega) (fun j g1 g2 => hno j g1 (by omega)) ?_
      rw [show p + (i - p) = i by omega]; exact h3
    · obtain ⟨off, xs, hpw⟩ := hhit
      have s := lex_store lex hlen hpw
      obtain ⟨cs, hlk, _, _⟩ := s.mem
      have hseg := lex_segOld lex hck h0 (p := p) n (by omega) hno b s.lt
      rw [fw_id n _ (fun i h1 h2 _ hh => hex ⟨i, h1, h2, hh⟩), hp, (look_find.1 hlk).2] at hseg
      cases hseg; rfl

theorem ban_mid {b n : Nat} : inBan [(0, b), (b + 1, n)] b = false := by
  have e : Nat.ble (b + 1) b = false := by
    cases h : Nat.ble (b + 1) b with
    | false => rfl
    | true => have := ble.1 h; omega
  simp only [inBan, e, cond_false]
  cases Nat.ble 0 b <;> rfl
theorem ban_sides {b n b' : Nat} (h : b' ≠ b) (hn : b' < n) : inBan [(0, b), (b + 1, n)] b' = true := by
  have e0 : Nat.ble 0 b' = true := ble.2 (by omega)
  rcases Nat.lt_or_ge b' b with h1 | h1
  · have e1 : Nat.ble (b' + 1) b = true := ble.2 (by omega)
    simp only [inBan, e0, e1, cond_true]
  · have e1 : Nat.ble (b' + 1) b = false := by
      cases h : Nat.ble (b' + 1) b with
      | false => rfl
      | true => have := ble.1 h; omega
    have e2 : Nat.ble (b + 1) b' = true := ble.2 (by omega)
    have e3 : Nat.ble (b' + 1) n = true := ble.2 (by omega)
    simp only [inBan, e0, e1, e2, e3, cond_true, cond_false]
theorem aLoad_look {c c' : Ctx} {h h' : Mem} {t : TypeId} {b off : Nat} (e : look c h b = look c' h' b) : aLoad P c h t (.pointer (some ⟨b, off, none⟩)) = aLoad P c' h' t (.pointer (some ⟨b, off, none⟩)) := by
  simp only [aLoad, cellsAt, e]
theorem qOf_zero {k : Nat} (h : cls all r.E k ≠ 2) : qOf all r.E k = 0 := by
  unfold qOf
  split
  · rfl
  · rw [beqF.2 h]; rfl
theorem okStore_qs {m m0 b o l : Nat} {ws : List (Nat × Nat × Nat × Nat)} {qs : List (Nat × Nat)} (h : okStore m m0 b o l ws qs = true) {i q : Nat} (hm : (i, q) ∈ qs) (hb : Nat.testBit m i = false) : q ≠ 0 ∧ q ≠ b + 1 ∧ q ≤ m0 := by
  unfold okStore at h
  simp only [Bool.and_eq_true] at h
  have := List.all_eq_true.1 h.2.2 (i, q) hm
  simp only [hb, Bool.false_or, Bool.and_eq_true, Bool.not_eq_true'] at this
  exact ⟨beqF.1 this.1, beqF.1 this.2.1, ble.1 this.2.2⟩
theorem okStore_ws {m m0 b o l : Nat} {ws : List (Nat × Nat × Nat × Nat)} {qs : List (Nat × Nat)} (h : okStore m m0 b o l ws qs = true) {i o' l' : Nat} (hm : (i, b, o', l') ∈ ws) (hb : Nat.testBit m i = false) : o + l ≤ o' ∨ o' + l' ≤ o := by
  unfold okStore at h
  simp only [Bool.and_eq_true] at h
  have := List.all_eq_true.1 h.2.1 (i, b, o', l') hm
  simp only [hb, Bool.false_or, apartW, Nat.beq_refl, Bool.not_true, Bool.or_eq_true] at this
  rcases this with h | h
  · exact .inl (ble.1 h)
  · exact .inr (ble.1 h)

end
end Go.Proofs.YtpbnpbmiijgeiaaGreatDoor.Ev
