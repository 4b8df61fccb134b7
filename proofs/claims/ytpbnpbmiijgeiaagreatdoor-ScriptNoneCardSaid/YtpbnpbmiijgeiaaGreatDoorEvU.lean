/- An evaluator of the program's code, twenty-first part, fourth text: regions that draw their order: one operation more. No condition. -/
import Derived.Test.YtpbnpbmiijgeiaaGreatDoorEvU3
namespace Go.Proofs.YtpbnpbmiijgeiaaGreatDoor.Ev
open Go Go.RowKit

section
variable {call : CallT} {P : Program} {c : Ctx} {nt m0 : Nat} {all : List Oper} {r : Run}
  {w₀ : World} {N : Nat} {μ0 : Mu} {T0 : AMem} {d0 : List Deferred}

set_option maxHeartbeats 1000000 in
theorem draw_step (lex : Lex call P c nt all (masks all []) m0 0 all.length r) (hI : r.I 0 = []) (hW : r.W 0 = []) (h0 : r.M 0 = m0) (hck : CallKp call) (hc : CallOK P call) (ok : OkD all) (hv0 : View c (r.H 0) T0) (hf0 : Fresh μ0 T0 (r.M 0) (r.M all.length))
    {L L' : Nat → Bool} {p : Nat} {μ : Mu} {T : AMem} {a : Act} {w : World} (inv : Inv c nt m0 all r w₀ N μ0 T0 d0 L p μ T a w) {k : Nat} {o : Oper} (hk : all[k]? = some o) (hL : L k = false)
    (hL' : ∀ i, L' i = (L i || decide (i = k))) (hready : ∀ j, ahead (masks all []) k j → L j = true) {K : Act → World → Prop} {Q : Exit → Act → World → Prop}
    (hK : ∀ p' μ' T' a' w', Inv c nt m0 all r w₀ N μ0 T0 d0 L' p' μ' T' a' w' → K a' w') : wpOp P all.toArray Q k K a w := by
  have hkl := (List.getElem?_eq_some_iff.1 hk).1
  have hple := inv.ple
  have hLs : ∀ i, L i = true → L' i = true := fun i h => by rw [hL', h]; rfl
  have hLk : L' k = true := by rw [hL']; simp
  have hLf : ∀ i, L' i = false → L i = false ∧ i ≠ k := fun i h => by
    rw [hL'] at h; simp only [Bool.or_eq_false_iff, decide_eq_false_iff_not] at h; exact h
  have hLt : ∀ i, L' i = true → i ≠ k → L i = true := fun i h hne => by rw [hL', decide_eq_false hne, Bool.or_false] at h; exact h
  have hcl' : ∀ i, i < all.length → L' i = true → ∀ j, ahead (masks all []) i j → L' j = true := by
    intro i hi hLi j hj
    by_cases e : i = k
    · subst e; exact hLs j (hready j hj)
    · exact hLs j (inv.cl i hi (hLt i hLi e) j hj)
  have hreads : ∀ t, (looks all o).contains t = true → valX (EL all (r.E 0) r.R L all.length) t = valX (r.E k) t := fun t ht => EL_reads lex ok inv.cl hk hL hready ht
  have hopv : ∀ x ∈ o.op.operands, opv (EL all (r.E 0) r.R L all.length) x = opv (r.E k) x := by
    intro x hx
    refine opv_valX fun t e => ?_
    subst e
    exact hreads t (looks_operand hx)
  have hwant : wantedE all (EL all (r.E 0) r.R L all.length) o = wantedE all (r.E k) o := wantedE_congr hreads
  have hset : ∀ {μ' : Mu} {r' : Value}, ER μ' nt (EL all (r.E 0) r.R L all.length) a → VR μ' (r.R k) r' → ER μ' nt (EL all (r.E 0) r.R L' all.length) (a.put o.dst r') ∧ (a.put o.dst r').defers = d0 := by
    intro μ' r' her hr
    obtain ⟨h1, h2⟩ := putE_sound her hr (putE_of (lex_dst lex hk))
    refine ⟨⟨h1.size, fun t => ?_⟩, by rw [h2, inv.dfr]⟩
    have h3 := h1.val t
    have h4 : valX (EL all (r.E 0) r.R L' all.length) t = valX (putR (EL all (r.E 0) r.R L all.length) o.dst (r.R k)) t := by
      rw [EL_put lex ok inv.cl hk hL hL', valX_putR (lex_dst lex hk)]
    unfold valX at h4
    rw [h4]; exact h3
  have hmono : ∀ {i j}, i ≤ j → j ≤ all.length → r.M i ≤ r.M j := fun h1 h2 => lex_mono lex h1 h2
  have hM0 : ∀ i, i ≤ all.length → m0 ≤ r.M i := fun i hi => by rw [← h0]; exact hmono (Nat.zero_le i) hi
  have hlt0 : ∀ i, i < all.length → ∀ b, Hits (pwOf all r.E) i b → b < m0 := by
    rintro i hi b ⟨off, xs, hpw⟩
    exact (lex_store lex hi hpw).lt
  have happ : (∀ b, ¬ Hits (pwOf all r.E) k b) → ∀ T, app (pwOf all r.E) L' p all.length T = app (pwOf all r.E) L p all.length T := by
    intro hn T
    funext b
    refine fw_congr _ _ (fun i _ _ hh => ?_)
    rw [hL']
    by_cases e : i = k
    · subst e; exact absurd hh (hn b)
    · simp [e]
  -- what leaves the ghost as it is
  have same : ∀ {r' : Value} {w' : World}, cls all r.E k ≤ 2 → r.M (k + 1) = r.M k → WR w₀ N μ (app (pwOf all r.E) L' p all.length T) w' → VR μ (r.R k) r' → K (a.put o.dst r') w' := by
    intro r' w' hc2 hMk hrel hr
    obtain ⟨h1, h2⟩ := hset inv.er hr
    refine hK p μ T _ w' ⟨hrel, h1, h2, inv.segA, ?_, ?_, inv.mu, inv.keep, hcl', inv.ple, fun i hi h3 h4 => hLs i (inv.p1 i hi h3 h4), fun i hi h3 => (inv.p1' i hi h3).imp (hLs i) id, ?_⟩
    · intro i hpi hi hLi b o' hb1 hb2 hlo
      by_cases e : i = k
      · subst e; omega
      · exact inv.segB i hpi hi (hLt i hLi e) b o' hb1 hb2 hlo
    · intro i hi hLi b hb1 hb2
      exact inv.fresh i hi (hLf i hLi).1 b hb1 hb2
    · intro i hpi hi ha
      rw [hL', inv.p2 i hpi hi ha]
      have : i ≠ k := by rintro rfl; omega
      simp [this]
  unfold wpOp
  simp only [List.getElem?_toArray, hk, wanted_sound inv.er, hwant]
  cases hw : wantedE all (r.E k) o with
  | false =>
    simp only [Bool.false_eq_true, if_false]
    have hc0 := cls_zero (E := r.E) hk (.inl hw)
    have hRM : r.R k = undef ∧ r.M (k + 1) = r.M k := by
      cases lex.step k o (by omega) hkl hk with
      | skip hw hr hh hm hi hws hqs hss hp => exact ⟨hr, hm⟩
      | pure hw' => rw [hw] at hw'; cases hw'
      | store hw' => rw [hw] at hw'; cases hw'
      | load hw' => rw [hw] at hw'; cases hw'
      | loud hw' => rw [hw] at hw'; cases hw'
    exact same (by omega) hRM.2 (by rw [happ (fun b => no_hit (by omega))]; exact inv.rel) (by rw [hRM.1]; exact VR.undef)
  | true =>
  simp only [if_true]
  refine .inl ?_
  cases hpo : pureO o.op with
  | true =>
    have hc0 := cls_zero (E := r.E) hk (.inr hpo)
    obtain ⟨h1, he, hMk⟩ : ∃ h1, evOp call P ⟨0, []⟩ (r.E k) .leaf 0 o.op = some (r.R k, h1, 0) ∧ r.M (k + 1) = r.M k := by
      cases lex.step k o (by omega) hkl hk with
      | skip hw' => rw [hw] at hw'; cases hw'
      | pure hw hpo h1 he hh hm hi hws hqs hss hp => exact ⟨h1, he, hm⟩
      | store hw' hpo' => rw [hpo] at hpo'; cases hpo'
      | load hw' hpo' => rw [hpo] at hpo'; cases hpo'
      | loud hw' hpo' => rw [hpo] at hpo'; cases hpo'
    rw [← evOp_congr o.op hopv] at he
    refine evOp_sound hc inv.rel (fun b o' h => by rw [look_find] at h; exact absurd h.2 (by simp [Tri.find])) (fun b h1 h2 => by omega) inv.er he K Q ?_
    intro μ1 T1 w1 r1 hp1 hr1
    have eT : T1 = app (pwOf all r.E) L p all.length T := funext fun b => hp1.keep b (.inr (Nat.zero_le b))
    have eμ : μ1 = μ := funext fun b => hp1.mu b (by omega)
    subst eμ
    exact same (by omega) hMk (by rw [happ (fun b => no_hit (by omega)), ← eT]; exact hp1.rel) hr1
  | false =>
  have hk0 : cls all r.E k ≠ 0 := by
    rcases cls_cases hk hw hpo with h | h | h | h | h <;> omega
  have memb := lex_memb lex hI hW k (by omega)
  -- what is tied to all and behind p hasn't been listed, so isn't ahead of k
  have hno5 : ∀ i, p ≤ i → i < k → cls all r.E i ≤ 4 := by
    intro i h1 h2
    rcases Nat.lt_or_ge (cls all r.E i) 5 with h | h
    · omega
    · exfalso
      have h5 : cls all r.E i = 5 := by have := @cls_le5 all r.E i; omega
      have := hready i (tied_lt ok (tied_5 h5 hk0 (by omega)) h2)
      rw [inv.p2 i h1 (by omega) (by omega)] at this; cases this
  cases lex_at lex hkl with
  | quiet hc0 hm hh hi hws hqs hss => exact absurd hc0 hk0
  | store hc1 o' hk' b off xs hpw hat hok hnl he0 hm hi hws hqs hss =>
    rw [hk] at hk'; cases hk'
    clear he0
    have s := lex_store lex hkl hpw
    obtain ⟨o2, t, x, y, u, ho2, hop, hx, hy, rfl, hsz⟩ := s.op
    rw [hk] at ho2; cases ho2
    obtain ⟨cs, hlk, hlen, _⟩ := s.mem
    obtain ⟨_, hbM, hbb, hLIM⟩ := may_some s.may
    have hpk : p ≤ k := by
      rcases Nat.lt_or_ge k p with h | h
      · have := inv.p1 k h (by omega) (by omega); rw [hL] at this; cases this
      · exact h
    have hseg := lex_segOld lex hck h0 (p := p) (k - p) (by omega) (fun i h1 h2 => hno5 i h1 (by omega)) b s.lt
    rw [show p + (k - p) = k by omega, (look_find.1 hlk).2] at hseg
    obtain ⟨cs0, hTb, hl0⟩ : ∃ cs0, T b = some (.cells cs0 none) ∧ cs0.length = cs.length := by
      cases hp : (r.H p).find b with
      | none => rw [hp, fw_none] at hseg; cases hseg
      | some ob =>
        rw [hp] at hseg
        have hTo := inv.segA b ob (Nat.lt_of_lt_of_le s.lt (hM0 p hple)) (look_find.2 ⟨hbb, hp⟩)
        cases ob with
        | map es => rw [fw_other (fun _ _ e => by cases e)] at hseg; cases hseg
        | ro es => rw [fw_other (fun _ _ e => by cases e)] at hseg; cases hseg
        | cells cs0 lk0 =>
          have hl := link0 lex h0 hck hp (k - p) (by omega) (fun i h1 h2 => hno5 i h1 (by omega)) (by rw [show p + (k - p) = k by omega]; exact ⟨off, _, hpw⟩)
          subst hl
          obtain ⟨cs1, lk1, e1, e2, _⟩ := fw_shape (pw := pwOf all r.E) (sel := fun _ => true) (b := b) (p := p) (cs := cs0) (lk := none) (k - p)
          rw [e1] at hseg
          simp only [Option.some.injEq, AObj.cells.injEq] at hseg
          exact ⟨cs0, hTo, by rw [hseg.1]; exact e2.symm⟩
    obtain ⟨cs', lk', hact, hl', hlk'⟩ := fw_shape (pw := pwOf all r.E) (sel := L) (b := b) (p := p) (cs := cs0) (lk := none) (all.length - p)
    have hlk0 : lk' = none := by rcases hlk' with h | h <;> exact h
    subst hlk0
    have hact' : app (pwOf all r.E) L p all.length T b = some (.cells cs' none) := by unfold app; rw [hTb]; exact hact
    have hlen' : off + u.cells.toList.length ≤ cs'.length := by omega
    have hlook : look ⟨0, [(0, b), (b + 1, r.M k)]⟩ (hput .leaf b (some (.cells cs' none))) b = some (.cells cs' none) := look_find.2 ⟨ban_mid, by rw [find_hput hLIM, if_pos rfl]⟩
    have hmay : may ⟨0, [(0, b), (b + 1, r.M k)]⟩ (r.M k) b = true := by
      unfold may
      simp only [Bool.and_eq_true, Bool.not_eq_true']
      exact ⟨ble.2 (Nat.zero_le b), ble.2 hbM, ble.2 hLIM, ban_mid⟩
    have he : evOp call P ⟨0, [(0, b), (b + 1, r.M k)]⟩ (r.E k) (hput .leaf b (some (.cells cs' none))) (r.M k) o.op = some (r.R k, hput (hput .leaf b (some (.cells cs' none))) b (some (.cells (splice cs' off u.cells.toList) none)), r.M k) := by
      have hw1 : aWrite ⟨0, [(0, b), (b + 1, r.M k)]⟩ (hput .leaf b (some (.cells cs' none))) (r.M k) b off u.cells.toList = some (hput (hput .leaf b (some (.cells cs' none))) b (some (.cells (splice cs' off u.cells.toList) none))) := by
        unfold aWrite
        rw [hlook]
        simp only []
        rw [hmay, ble.2 hlen', s.one]
        rfl
      rw [hop, s.res]
      simp only [evOp, hx, hy, aStore, hsz, Nat.beq_refl, cond_true, hw1, keepV]
    rw [← evOp_congr o.op hopv] at he
    refine evOp_sound hc inv.rel ?_ (fun b h1 h2 => by omega) inv.er he K Q ?_
    · intro b' o' hlo
      obtain ⟨h1, h2⟩ := look_find.1 hlo
      rw [find_hput hLIM] at h2
      by_cases e : b' = b
      · subst e
        rw [if_pos rfl] at h2
        rw [hact']; exact h2
      · rw [if_neg e] at h2
        simp [Tri.find] at h2
    intro μ1 T1 w1 r1 hp1 hr1
    have eμ : μ1 = μ := funext fun b => hp1.mu b (by omega)
    subst eμ
    have eT : T1 = app (pwOf all r.E) L' p all.length T := by
      funext b'
      by_cases e : b' = b
      · subst e
        have h1 := hp1.view b' (.cells (splice cs' off u.cells.toList) none) (look_find.2 ⟨ban_mid, by rw [find_hput hLIM, if_pos rfl]⟩)
        rw [h1]
        have h2 := fw_add (pw := pwOf all r.E) (b := b') (p := p) hL hL' (all.length - p) (T b') hpk (by omega) (by
          intro i g1 g2 g3 z
          by_cases hh : Hits (pwOf all r.E) i b'
          · obtain ⟨off2, xs2, hpw2⟩ := hh
            rw [stepB_hit hpw, stepB_hit hpw2]
            have hil : i < all.length := by omega
            have s2 := lex_store lex hil hpw2
            have hbit : Nat.testBit ((masks all []).getD i 0) k = false := by
              cases hbt : Nat.testBit ((masks all []).getD i 0) k with
              | false => rfl
              | true => have := inv.cl i hil g3 k hbt; rw [hL] at this; cases this
            have := okStore_ws s2.ok ((lex_memb lex hI hW i (by omega)).w1 k g1 b' off _ hpw) hbit
            rw [stepB_hit hpw2, stepB_hit hpw]
            exact wobj_comm this z
          · rw [stepB_not hh, stepB_not hh])
        show _ = fw (pwOf all r.E) L' b' p (all.length - p) (T b')
        rw [h2, stepB_hit hpw, show fw (pwOf all r.E) L b' p (all.length - p) (T b') = some (.cells cs' none) from hact', wobj, if_pos hlen']
      · rw [hp1.keep b' (by
          rcases Nat.lt_or_ge b' (r.M k) with h | h
          · exact .inl ⟨h, .inr (ban_sides e h)⟩
          · exact .inr h)]
        refine fw_congr _ _ (fun i _ _ hh => ?_)
        rw [hL']
        by_cases e2 : i = k
        · subst e2
          obtain ⟨o3, xs3, h3⟩ := hh
          rw [hpw] at h3
          simp only [Option.some.injEq, Prod.mk.injEq] at h3
          exact absurd h3.1.symm e
        · simp [e2]
    exact same (by omega) hm (by rw [← eT]; exact hp1.rel) hr1
  | load hc2 o' hk' hld hok h1' n1' he0 hq hm hh hi hws hqs hss =>
    rw [hk] at hk'; cases hk'
    obtain ⟨t, x, hop⟩ : ∃ t x, o.op = .load t x := by
      revert hld
      cases o.op <;> simp [isLoad]
    have he1 := he0
    rw [hop] at he1
    simp only [evOp] at he1
    split at he1
    case h_2 => cases he1
    rename_i v hx
    obtain ⟨hal, _, _⟩ := keepN_some he1
    obtain ⟨b, off, rfl⟩ : ∃ b off, v = .pointer (some ⟨b, off, none⟩) := by
      unfold aLoad at hal
      split at hal
      · exact ⟨_, _, rfl⟩
      · cases hal
    have hqb : qOf all r.E k = b + 1 := by rw [hq, hop]; simp only [loadAt, hx]
    obtain ⟨ob, hob⟩ : ∃ ob, look ⟨0, others ((masks all []).getD k 0) (r.I k) ++ (bansW ((masks all []).getD k 0) (r.W k) ++ c.ban)⟩ (r.H k) b = some ob := by
      cases hlk : look ⟨0, others ((masks all []).getD k 0) (r.I k) ++ (bansW ((masks all []).getD k 0) (r.W k) ++ c.ban)⟩ (r.H k) b with
      | some ob => exact ⟨ob, rfl⟩
      | none =>
        have hlk' : look ⟨r.M k, others ((masks all []).getD k 0) (r.I k) ++ (bansW ((masks all []).getD k 0) (r.W k) ++ c.ban)⟩ (r.H k) b = none := hlk
        simp only [aLoad, cellsAt, hlk'] at hal
        first | (cases hal; done) | (split at hal <;> first | (cases hal; done) | (simp_all; done))
    unfold okLoad at hok
    simp only [Bool.and_eq_true, Bool.not_eq_true', Bool.or_eq_true] at hok
    have hTb := draw_mem lex hI hW h0 hck ok hv0 hf0 inv hkl hL hready hob (by
      rintro i hki hil hLi ⟨off2, xs2, hpw2⟩
      have s2 := lex_store lex hil hpw2
      have hbit : Nat.testBit ((masks all []).getD i 0) k = false := by
        cases hbt : Nat.testBit ((masks all []).getD i 0) k with
        | false => rfl
        | true => have := inv.cl i hil hLi k hbt; rw [hL] at this; cases this
      exact (okStore_qs s2.ok ((lex_memb lex hI hW i (by omega)).q1 k hki (by omega)) hbit).2.1 hqb) hk0 (by
      rcases Nat.lt_or_ge b m0 with h | h
      · exact .inl h
      · refine .inr ⟨?_, fun i h1 h2 => ?_⟩
        · rcases Nat.lt_or_ge k p with h' | h'
          · rcases inv.p1' k h' hc2 with h3 | h3
            · rw [hL] at h3; cases h3
            · omega
          · exact h'
        · have h3 := hno5 i h1 h2
          rcases Nat.lt_or_ge (cls all r.E i) 4 with h4 | h4
          · omega
          · exfalso
            rcases hok.2 with h5 | h5
            · have := ble.1 h5; omega
            · have h6 := List.all_eq_true.1 h5 i (memb.s1 i h2 (by omega))
              have := hready i h6
              rw [inv.p2 i h1 (by omega) h4] at this; cases this)
    have hfs : ∀ j, (Tri.put (b + 1) .leaf b (some ob)).find j = if j = b then some ob else none := by
      intro j
      rw [Tri.find_put (b + 1) .leaf b (some ob) j Nat.lt_two_pow_self]
      simp [Tri.find]
    have he : evOp call P ⟨0, []⟩ (r.E k) (Tri.put (b + 1) .leaf b (some ob)) 0 o.op = some (r.R k, Tri.put (b + 1) .leaf b (some ob), 0) := by
      rw [hop]
      simp only [evOp, hx]
      rw [aLoad_look (c' := ⟨r.M k, others ((masks all []).getD k 0) (r.I k) ++ (bansW ((masks all []).getD k 0) (r.W k) ++ c.ban)⟩) (h' := r.H k) (look_find.2 ⟨rfl, by rw [hfs, if_pos rfl]⟩ |>.trans hob.symm), hal]
      rfl
    rw [← evOp_congr o.op hopv] at he
    refine evOp_sound hc inv.rel ?_ (fun b h1 h2 => by omega) inv.er he K Q ?_
    · intro b' o' hlo
      obtain ⟨h1, h2⟩ := look_find.1 hlo
      rw [hfs] at h2
      by_cases e : b' = b
      · subst e
        rw [if_pos rfl] at h2
        rw [hTb]; exact h2
      · rw [if_neg e] at h2; cases h2
    intro μ1 T1 w1 r1 hp1 hr1
    have eT : T1 = app (pwOf all r.E) L p all.length T := funext fun b => hp1.keep b (.inr (Nat.zero_le b))
    have eμ : μ1 = μ := funext fun b => hp1.mu b (by omega)
    subst eμ
    exact same (by omega) hm (by rw [happ (fun b => no_hit (by omega)), ← eT]; exact hp1.rel) hr1
  | loud hc3 o' hk' hok he0 hle hi hws hqs hss =>
    rw [hk] at hk'; cases hk'
    have hnh : ∀ b, ¬ Hits (pwOf all r.E) k b := fun b => no_hit (by omega)
    have hpk : p ≤ k := by
      rcases Nat.lt_or_ge k p with h | h
      · have := inv.p1 k h (by omega) (by omega); rw [hL] at this; cases this
      · exact h
    have hno : ∀ i, p ≤ i → i < k → cls all r.E i ≤ 3 := by
      intro i h1 h2
      have h3 := hno5 i h1 h2
      rcases Nat.lt_or_ge (cls all r.E i) 4 with h4 | h4
      · omega
      · exfalso
        have := hready i (tied_lt ok (tied_4 (by omega) hk0 (by omega) (by omega)) h2)
        rw [inv.p2 i h1 (by omega) h4] at this; cases this
    -- no store behind k has been listed
    have hlate : ∀ i, k < i → i < all.length → L i = true → ∀ b, ¬ Hits (pwOf all r.E) i b := by
      rintro i hki hil hLi b ⟨off2, xs2, hpw2⟩
      have s2 := lex_store lex hil hpw2
      have hbit : Nat.testBit ((masks all []).getD i 0) k = false := by
        cases hbt : Nat.testBit ((masks all []).getD i 0) k with
        | false => rfl
        | true => have := inv.cl i hil hLi k hbt; rw [hL] at this; cases this
      exact (okStore_qs s2.ok ((lex_memb lex hI hW i (by omega)).q1 k hki (by omega)) hbit).1 (qOf_zero (by omega))
    have hview : View ⟨(if cls all r.E k = 5 then c.lo else if cls all r.E k = 4 then m0 else r.M k), others ((masks all []).getD k 0) (r.I k) ++ (bansW ((masks all []).getD k 0) (r.W k) ++ c.ban)⟩ (r.H k) (app (pwOf all r.E) L p all.length T) :=
      fun b o' hlo => draw_mem lex hI hW h0 hck ok hv0 hf0 inv hkl hL hready hlo (fun i h1 h2 h3 => hlate i h1 h2 h3 b) hk0 (.inr ⟨hpk, hno⟩)
    have hfr : Fresh μ (app (pwOf all r.E) L p all.length T) (r.M k) (r.M (k + 1)) := fun b h1 h2 => by
      obtain ⟨f1, f2⟩ := inv.fresh k hkl hL b h1 h2
      exact ⟨by unfold app; rw [f1, fw_none], f2⟩
    have he := he0
    rw [← evOp_congr o.op hopv] at he
    refine evOp_sound hc inv.rel hview hfr inv.er he K Q ?_
    intro μ1 T1 w1 r1 hp1 hr1
    obtain ⟨q1, q2⟩ := hset (inv.er.mono (hp1.sub hfr)) hr1
    have hmu1 : ∀ b, ¬(r.M 0 ≤ b ∧ b < r.M all.length) → μ1 b = μ0 b := by
      intro b hb
      have g1 := hmono (Nat.zero_le k) (by omega : k ≤ all.length)
      have g2 := hmono (by omega : k + 1 ≤ all.length) (Nat.le_refl _)
      rw [hp1.mu b (by omega), inv.mu b hb]
    rcases Nat.lt_or_ge (cls all r.E k) 4 with hc4 | hc4
    · -- its own names alone
      have hkeep1 : ∀ b, ¬(r.M k ≤ b ∧ b < r.M (k + 1)) → T1 b = app (pwOf all r.E) L p all.length T b := by
        intro b hb
        refine hp1.keep b ?_
        rcases Nat.lt_or_ge b (r.M k) with h | h
        · refine .inl ⟨h, .inl ?_⟩
          show b < (if cls all r.E k = 5 then c.lo else if cls all r.E k = 4 then m0 else r.M k)
          rw [if_neg (by omega), if_neg (by omega)]
          exact h
        · exact .inr (by omega)
      have hout : ∀ i, i < all.length → i ≠ k → ∀ b, r.M i ≤ b → b < r.M (i + 1) → ¬(r.M k ≤ b ∧ b < r.M (k + 1)) := by
        intro i hi hne b hb1 hb2 hb
        rcases Nat.lt_or_ge i k with h | h
        · have := hmono (by omega : i + 1 ≤ k) (by omega); omega
        · have := hmono (by omega : k + 1 ≤ i) (by omega); omega
      refine hK p μ1 (fun b => if r.M k ≤ b ∧ b < r.M (k + 1) then T1 b else T b) _ w1 ⟨?_, q1, q2, ?_, ?_, ?_, hmu1, ?_, hcl', inv.ple, fun i hi h3 h4 => hLs i (inv.p1 i hi h3 h4), fun i hi h3 => (inv.p1' i hi h3).imp (hLs i) id, ?_⟩
      · have : app (pwOf all r.E) L' p all.length (fun b => if r.M k ≤ b ∧ b < r.M (k + 1) then T1 b else T b) = T1 := by
          rw [happ hnh]
          funext b
          unfold app
          by_cases hb : r.M k ≤ b ∧ b < r.M (k + 1)
          · simp only [if_pos hb]
            exact fw_id _ _ (fun i h1 h2 _ hh => by
              have := hlt0 i (by omega) b hh
              have := hM0 k (by omega)
              omega)
          · simp only [if_neg hb]
            exact (hkeep1 b hb).symm
        rw [this]; exact hp1.rel
      · intro b o' hb hlk
        have : ¬(r.M k ≤ b ∧ b < r.M (k + 1)) := by have := hmono hpk (by omega); omega
        simp only [if_neg this]
        exact inv.segA b o' hb hlk
      · intro i hpi hi' hLi b o' hb1 hb2 hlk
        by_cases e : i = k
        · subst e
          simp only [if_pos (And.intro hb1 hb2)]
          refine hp1.view b o' (look_find.2 ⟨?_, (look_find.1 hlk).2⟩)
          show inBan (others ((masks all []).getD i 0) (r.I i) ++ (bansW ((masks all []).getD i 0) (r.W i) ++ c.ban)) b = false
          rw [inBan_append, inBan_append, (look_find.1 hlk).1, Bool.or_false]
          cases hob : inBan (others ((masks all []).getD i 0) (r.I i)) b with
          | true =>
            exfalso
            obtain ⟨j, x, y, g1, _, g3, g4⟩ := others_only hob
            obtain ⟨g5, _, rfl, rfl⟩ := memb.i2 j x y g1
            have := hmono (by omega : j + 1 ≤ i) (by omega)
            omega
          | false =>
            cases hob2 : inBan (bansW ((masks all []).getD i 0) (r.W i)) b with
            | false => rfl
            | true =>
              exfalso
              obtain ⟨j, off, l, g1, _⟩ := bansW_only hob2
              obtain ⟨g5, _, xs, g6⟩ := memb.w2 j b off l g1
              have := hlt0 j (by omega) b ⟨off, xs, g6⟩
              have := hM0 i (by omega)
              omega
        · simp only [if_neg (hout i hi' e b hb1 hb2)]
          exact inv.segB i hpi hi' (hLt i hLi e) b o' hb1 hb2 hlk
      · intro i hi' hLi b hb1 hb2
        obtain ⟨g1, g2⟩ := hLf i hLi
        obtain ⟨f1, f2⟩ := inv.fresh i hi' g1 b hb1 hb2
        have hb := hout i hi' g2 b hb1 hb2
        exact ⟨by simp only [if_neg hb]; exact f1, by rw [hp1.mu b hb]; exact f2⟩
      · intro b hb
        have g1 := hmono (Nat.zero_le k) (by omega : k ≤ all.length)
        have g2 := hmono (by omega : k + 1 ≤ all.length) (Nat.le_refl _)
        have : ¬(r.M k ≤ b ∧ b < r.M (k + 1)) := by omega
        simp only [if_neg this]
        exact inv.keep b hb
      · intro i hpi hi' ha
        rw [hL', inv.p2 i hpi hi' ha]
        have : i ≠ k := by rintro rfl; omega
        simp [this]
    · -- tied to all, or to all but loads
      have htied : ∀ i, i ≠ k → cls all r.E i ≠ 0 → cls all r.E i ≠ 2 → tied (masks all []) i k = true := by
        intro i hne h1 h2
        rcases Nat.lt_or_ge (cls all r.E k) 5 with h | h
        · exact tied_symm (tied_4 (by omega) h1 h2 hne)
        · have h5 : cls all r.E k = 5 := by have := @cls_le5 all r.E k; omega
          exact tied_symm (tied_5 h5 h1 hne)
      have hbefore : ∀ i, i < k → cls all r.E i ≠ 0 → cls all r.E i ≠ 2 → L i = true ∧ Nat.testBit ((masks all []).getD k 0) i = true := by
        intro i hi' h1 h2
        have := tied_lt ok (htied i (by omega) h1 h2) hi'
        exact ⟨hready i this, this⟩
      have hafter : ∀ i, k < i → i < all.length → cls all r.E i ≠ 0 → cls all r.E i ≠ 2 → L i = false := by
        intro i hi' hil h1 h2
        have ha := tied_gt ok (htied i (by omega) h1 h2) hi'
        cases hLi : L i with
        | false => rfl
        | true => have := inv.cl i hil hLi k ha; rw [hL] at this; cases this
      refine hK (k + 1) μ1 T1 _ w1 ⟨?_, q1, q2, ?_, ?_, ?_, hmu1, ?_, hcl', by omega, ?_, ?_, ?_⟩
      · have : app (pwOf all r.E) L' (k + 1) all.length T1 = T1 := by
          funext b
          unfold app
          refine fw_id _ _ (fun i h1 h2 hs hh => ?_)
          exact hlate i (by omega) (by omega) (hLt i hs (by omega)) b hh
        rw [this]; exact hp1.rel
      · intro b o' hb hlk
        refine hp1.view b o' (look_find.2 ⟨?_, (look_find.1 hlk).2⟩)
        show inBan (others ((masks all []).getD k 0) (r.I k) ++ (bansW ((masks all []).getD k 0) (r.W k) ++ c.ban)) b = false
        rw [inBan_append, inBan_append, (look_find.1 hlk).1, Bool.or_false]
        cases hob : inBan (others ((masks all []).getD k 0) (r.I k)) b with
        | true =>
          exfalso
          obtain ⟨j, x, y, g1, g2, _, _⟩ := others_only hob
          obtain ⟨g5, g6, _, _⟩ := memb.i2 j x y g1
          rw [(hbefore j g5 (by omega) (by omega)).2] at g2; cases g2
        | false =>
          cases hob2 : inBan (bansW ((masks all []).getD k 0) (r.W k)) b with
          | false => rfl
          | true =>
            exfalso
            obtain ⟨j, off, l, g1, g2⟩ := bansW_only hob2
            obtain ⟨g5, g6, _⟩ := memb.w2 j b off l g1
            rw [(hbefore j g5 (by omega) (by omega)).2] at g2; cases g2
      · intro i hpi hi' hLi b o' hb1 hb2 hlk
        have h3 := lex_names lex hi' hb1 hb2
        have hLi' := hLt i hLi (by omega)
        rw [hafter i (by omega) hi' (by omega) (by omega)] at hLi'; cases hLi'
      · intro i hi' hLi b hb1 hb2
        obtain ⟨g1, g2⟩ := hLf i hLi
        have h3 := lex_names lex hi' hb1 hb2
        obtain ⟨f1, f2⟩ := inv.fresh i hi' g1 b hb1 hb2
        have hik : k < i := by
          rcases Nat.lt_or_ge i k with h | h
          · have := (hbefore i h (by omega) (by omega)).1; rw [g1] at this; cases this
          · omega
        have hout : r.M (k + 1) ≤ b := Nat.le_trans (hmono (by omega : k + 1 ≤ i) (by omega)) hb1
        exact ⟨by rw [hp1.keep b (.inr hout)]; unfold app; rw [f1, fw_none], by rw [hp1.mu b (by omega)]; exact f2⟩
      · intro b hb
        have g1 := hmono (Nat.zero_le k) (by omega : k ≤ all.length)
        have g2 := hmono (by omega : k + 1 ≤ all.length) (Nat.le_refl _)
        have hkeep : T1 b = app (pwOf all r.E) L p all.length T b := by
          refine hp1.keep b ?_
          rcases hb with ⟨hb, hb2⟩ | hb
          · refine .inl ⟨by omega, ?_⟩
            rcases Nat.lt_or_ge (cls all r.E k) 5 with h | h
            · refine .inl ?_
              show b < (if cls all r.E k = 5 then c.lo else if cls all r.E k = 4 then m0 else r.M k)
              rw [if_neg (by omega), if_pos (by omega), ← h0]
              exact hb
            · have h5 : cls all r.E k = 5 := by have := @cls_le5 all r.E k; omega
              rcases hb2 with hb2 | hb2
              · refine .inl ?_
                show b < (if cls all r.E k = 5 then c.lo else if cls all r.E k = 4 then m0 else r.M k)
                rw [if_pos h5]
                exact hb2
              · refine .inr ?_
                show inBan (others ((masks all []).getD k 0) (r.I k) ++ (bansW ((masks all []).getD k 0) (r.W k) ++ c.ban)) b = true
                rw [inBan_append, inBan_append, hb2, Bool.or_true, Bool.or_true]
          · exact .inr (by omega)
        rw [hkeep, ← inv.keep b hb]
        unfold app
        refine fw_id _ _ (fun i h1 h2 _ hh => ?_)
        obtain ⟨off, xs, hpw⟩ := hh
        have hil : i < all.length := by omega
        have s := lex_store lex hil hpw
        obtain ⟨e1, e2, e3, _⟩ := may_some s.may
        rcases hb with ⟨_, hb2 | hb2⟩ | hb
        · omega
        · rw [hb2] at e3; cases e3
        · have := hmono (by omega : i ≤ all.length) (Nat.le_refl _); omega
      · intro i hi' h1 h2
        rcases Nat.lt_or_ge i k with h | h
        · exact hLs i (hbefore i h h1 h2).1
        · have : i = k := by omega
          rw [this]; exact hLk
      · intro i hi' h1
        have hik : i < k := by
          rcases Nat.lt_or_ge i k with h | h
          · exact h
          · have : i = k := by omega
            subst this; omega
        rcases Nat.lt_or_ge (cls all r.E k) 5 with h | h
        · have hs := hok (by omega)
          unfold okSemi at hs
          have := List.all_eq_true.1 hs (i, qOf all r.E i) (memb.q1 i hik (by omega))
          simp only [Bool.or_eq_true, Bool.and_eq_true, Bool.not_eq_true'] at this
          rcases this with h3 | h3
          · exact .inl (hLs i (hready i h3))
          · exact .inr ⟨beqF.1 h3.1, ble.1 h3.2⟩
        · have h5 : cls all r.E k = 5 := by have := @cls_le5 all r.E k; omega
          have := tied_lt ok (tied_symm (tied_5 h5 (by omega) (by omega : i ≠ k))) hik
          exact .inl (hLs i (hready i this))
      · intro i hpi hi' ha
        rw [hL', inv.p2 i (by omega) hi' ha]
        have : i ≠ k := by omega
        simp [this]

end
end Go.Proofs.YtpbnpbmiijgeiaaGreatDoor.Ev
