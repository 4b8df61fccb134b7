/- An evaluator of the program's code, twelfth part: maps. No condition. -/
import Derived.Test.YtpbnpbmiijgeiaaGreatDoorEvK
import Derived.MapKept
namespace Go.Proofs.YtpbnpbmiijgeiaaGreatDoor.Ev
open Go Go.RowKit

section
variable {P : Program} {w : World} {c : Ctx} {h h' : Mem} {n n' : Nat} {w₀ : World} {N : Nat} {μ : Mu} {T : AMem}

/-- entries that belong together -/
def ES (μ : Mu) (es : List (Value × Value)) (es' : List MapEntry) : Prop :=
  es.length = es'.length ∧ ∀ (i : Nat) k v, es[i]? = some (k, v) → ∃ e, es'[i]? = some e ∧ e.key = k ∧ VR μ v e.val

theorem ES.tail {x : Value × Value} {es : List (Value × Value)} {e : MapEntry} {es' : List MapEntry} (hh : ES μ (x :: es) (e :: es')) : e.key = x.1 ∧ VR μ x.2 e.val ∧ ES μ es es' := by
  obtain ⟨h1, h2⟩ := hh
  obtain ⟨e0, q1, q2, q3⟩ := h2 0 x.1 x.2 rfl
  simp at q1
  subst q1
  refine ⟨q2, q3, by simpa using h1, fun i k v hk => by simpa using h2 (i + 1) k v (by simpa using hk)⟩

theorem sameK_now {d : TypeDesc} (hd : keyKind d = true) {a b : Value} {q : Bool} (hs : sameK a b = some q) (hk : ∀ k x, a = .int k x → ∃ k', d = .int k') (hs2 : ∀ x, a = .string x → d = .string) (hb2 : ∀ x, a = .bool x → d = .bool) : Instr.sameNow d a b = some q := by
  unfold sameK at hs
  split at hs
  · rename_i k x k' y
    obtain ⟨k2, rfl⟩ := hk k x rfl
    by_cases e : k = k'
    · simp [e] at hs; simp [Instr.sameNow, e, hs]
    · simp [e] at hs
  · rename_i x y
    have := hs2 x rfl
    subst this
    simp only [Option.some.injEq] at hs
    simp [Instr.sameNow, hs]
  · rename_i x y
    have := hb2 x rfl
    subst this
    simp only [Option.some.injEq] at hs
    simp [Instr.sameNow, hs]
  · cases hs

theorem findK_now {d : TypeDesc} (hd : keyKind d = true) {k : Value} (hfit : fits d k = true) : ∀ (es : List (Value × Value)) (es' : List MapEntry) (i : Nat) (r : Option (Nat × Value)), ES μ es es' → findK k es i = some r →
    ∃ r', Instr.findNow d k es' i = some r' ∧ (match r, r' with | none, none => True | some (j, v), some (j', v') => j = j' ∧ VR μ v v' ∧ i ≤ j ∧ (es[j - i]?).map (·.2) = some v | _, _ => False)
  | [], es', i, r, he, hf => by
    have : es' = [] := by have := he.1; cases es' with | nil => rfl | cons _ _ => simp at this
    subst this
    simp only [findK, Option.some.injEq] at hf
    subst hf
    exact ⟨none, rfl, trivial⟩
  | (k', v) :: es, es', i, r, he, hf => by
    cases es' with
    | nil => have := he.1; simp at this
    | cons e es' =>
      obtain ⟨q1, q2, q3⟩ := he.tail
      simp only [] at q1
      rw [findK] at hf
      have hnow : ∀ q, sameK k k' = some q → Instr.sameNow d k e.key = some q := by
        intro q hq
        rw [q1]
        refine sameK_now hd hq ?_ ?_ ?_
        · rintro kk x rfl; cases d <;> simp [fits] at hfit; exact ⟨_, rfl⟩
        · rintro x rfl; cases d <;> simp [fits] at hfit; rfl
        · rintro x rfl; cases d <;> simp [fits] at hfit; rfl
      cases hs : sameK k k' with
      | none => simp [hs] at hf
      | some q =>
        cases q with
        | true =>
          simp only [hs, Option.some.injEq] at hf
          subst hf
          exact ⟨some (i, e.val), by rw [Instr.findNow, hnow _ hs], rfl, q2, Nat.le_refl _, by simp⟩
        | false =>
          simp only [hs] at hf
          obtain ⟨r', p1, p2⟩ := findK_now hd hfit es es' (i + 1) r q3 hf
          refine ⟨r', by rw [Instr.findNow, hnow _ hs]; exact p1, ?_⟩
          cases r with
          | none => cases r' with
            | none => trivial
            | some _ => exact p2
          | some x => cases r' with
            | none => exact p2
            | some y =>
              obtain ⟨p3, p4, p5, p6⟩ := p2
              refine ⟨p3, p4, by omega, ?_⟩
              rw [show x.1 - i = (x.1 - (i + 1)) + 1 by omega, List.getElem?_cons_succ]
              exact p6

theorem mapT_some {t k e : TypeId} (hm : mapT P t = some (k, e)) : P.underlying t = some (.map k e) ∧ ∃ d, P.underlying k = some d ∧ keyKind d = true := by
  unfold mapT at hm
  split at hm
  · rename_i k0 e0 hu
    split at hm
    · rename_i d hd
      cases hk : keyKind d with
      | false => simp [hk] at hm
      | true =>
        simp only [hk, cond_true, Option.some.injEq, Prod.mk.injEq] at hm
        obtain ⟨rfl, rfl⟩ := hm
        exact ⟨hu, d, hd, hk⟩
    · cases hm
  · cases hm

theorem run_checkKey {k : TypeId} {d : TypeDesc} (hd : P.underlying k = some d) (hk : keyKind d = true) (b : Bool) (v : Value) (w : World) : (Instr.checkKey b 10000 k v).run P w = .ok () w := by
  rw [Instr.checkKey.eq_def]
  cases d <;> simp [keyKind] at hk <;> simp [run_underlying hd]

theorem run_findKey {k : TypeId} {d : TypeDesc} (hd : P.underlying k = some d) {v : Value} {es : List MapEntry} {r : Option (Nat × Value)} (hf : Instr.findNow d v es 0 = some r) (w : World) : (Instr.findKey k v es).run P w = .ok r w := by
  simp [Instr.findKey, run_underlying hd, hf]


theorem entriesAt_get {b : Nat} {es : List (Value × Value)} (hw : WR w₀ N μ T w) (hv : View c h T) (he : entriesAt c h b = some es) :
    T b = some (.map es) ∧ ∃ L es' ck, μ b = some L ∧ N ≤ L.blk ∧ w.heap[L.blk]? = some (.map es' ck) ∧ ES μ es es'.toList := by
  unfold entriesAt at he
  split at he
  · rename_i es0 hl
    cases he
    have hT := hv _ _ hl
    obtain ⟨L, h1, h2, es', ck, h3, h4, h5⟩ := hw.obj _ _ hT
    exact ⟨hT, L, es', ck, h1, h2, h3, by simpa using h4, fun i k v hk => by
      obtain ⟨e, q1, q2, q3⟩ := h5 i k v hk
      exact ⟨e, by rw [Array.getElem?_toList]; exact q1, q2, q3⟩⟩
  · cases he

theorem keyFits_some {t kt et : TypeId} {k : Value} {d : TypeDesc} (hk : keyFits P t k = true) (hu : P.underlying t = some (.map kt et)) (hd : P.underlying kt = some d) : fits d k = true ∧ atom 3 k = true := by
  unfold keyFits at hk
  simp only [hu, hd] at hk
  refine ⟨hk, ?_⟩
  cases d <;> cases k <;> first | rfl | (simp [fits] at hk)

theorem aLookup_sound {t : TypeId} {m m' k k' r : Value} {ok : Bool} (hw : WR w₀ N μ T w) (hv : View c h T) (hm : VR μ m m') (hk : VR μ k k') (he : aLookup P c h t m k ok = some r) :
    ∃ r', (Instr.lookup t m' k' ok).run P w = .ok r' w ∧ VR μ r r' := by
  unfold aLookup at he
  split at he
  · cases he
  rename_i kt et hmt
  obtain ⟨hu, d, hd, hkk⟩ := mapT_some hmt
  try dsimp only at he
  cases hkf : keyFits P t k with
  | false => simp [hkf] at he
  | true =>
  simp only [hkf, cond_true] at he
  obtain ⟨hfit, hat⟩ := keyFits_some hkf hu hd
  obtain rfl := atom_eq 3 hat hk
  have two : ∀ {v v' : Value} {b : Bool}, VR μ v v' → VR μ (bif ok then .tuple #[v, .bool b] else v) (if ok = true then .tuple #[v', .bool b] else v') := by
    intro v v' b h
    cases ok
    · exact h
    · exact VR.tuple_of (VRs.cons h (VRs.cons (.bool b) VRs.nil))
  -- the map's entries
  have hes : ∀ es, (match m with | .map none => some [] | .map (some b) => entriesAt c h b | _ => none) = some es → ∃ es' : Array MapEntry, ES μ es es'.toList ∧
      ((m' = .map none ∧ es' = #[]) ∨ ∃ L ck, m' = .map (some L) ∧ (getObj L).run P w = .ok (.map es' ck) w) := by
    intro es hes
    cases hm with
    | nilm => simp only [Option.some.injEq] at hes; subst hes; exact ⟨#[], ⟨rfl, fun i k v hk => by simp at hk⟩, .inl ⟨rfl, rfl⟩⟩
    | map b L hL =>
      obtain ⟨_, L', es', ck, h1, h2, h3, h4⟩ := entriesAt_get hw hv hes
      rw [hL] at h1; cases h1
      exact ⟨es', h4, .inr ⟨_, ck, rfl, by simp [getObj, Sem.run, h3]⟩⟩
    | _ => cases hes
  split at he
  · cases he
  rename_i es heq
  obtain ⟨es', hE, hrun⟩ := hes es heq
  clear hes heq hm
  split at he
  · cases he
  · rename_i j v hf
    obtain ⟨r', q1, q2⟩ := findK_now hkk hfit es es'.toList 0 _ hE hf
    cases r' with
    | none => exact q2.elim
    | some x =>
      obtain ⟨j', v'⟩ := x
      obtain ⟨rfl, q3, _⟩ := q2
      simp only [Option.some.injEq] at he
      subst he
      refine ⟨_, ?_, two q3⟩
      rcases hrun with ⟨rfl, rfl⟩ | ⟨L, ck, rfl, hg⟩
      · simp [Instr.findNow] at q1
      · simp [Instr.lookup, run_underlying hu, hg, run_checkKey hd hkk, run_findKey hd q1]
  · rename_i hf
    obtain ⟨r', q1, q2⟩ := findK_now hkk hfit es es'.toList 0 _ hE hf
    cases r' with
    | some _ => exact q2.elim
    | none =>
      obtain ⟨z, hz, rfl⟩ := Option.map_eq_some_iff.1 he
      obtain ⟨hz1, hz2⟩ := run_zeroT hz w
      refine ⟨_, ?_, two (atom_refl μ 3 z hz2)⟩
      have q1' := run_findKey (v := k) hd q1
      rcases hrun with ⟨rfl, rfl⟩ | ⟨L, ck, rfl, hg⟩
      · simp [Instr.lookup, run_underlying hu, run_checkKey hd hkk] at q1' ⊢
        simp [q1', hz1]
      · simp [Instr.lookup, run_underlying hu, hg, run_checkKey hd hkk, q1', hz1]

/-- a map is written -/
theorem wr_map {b : Nat} {es es1 : List (Value × Value)} {es1' : Array MapEntry} {ck : Nat} {L : Loc} (hw : WR w₀ N μ T w) (hv : View c h T) (hmay : may c n b = true) (hT : T b = some (.map es)) (hL : μ b = some L) (hN : N ≤ L.blk)
    (hblk : L.blk < w.heap.size) (hE : ES μ es1 es1'.toList) :
    Post c (hput h b (some (.map es1))) n n w₀ N μ T μ (upd T b (some (.map es1))) { w with heap := w.heap.setIfInBounds L.blk (.map es1' ck) } := by
  obtain ⟨m1, m2, m3, hbl⟩ := may_some hmay
  have hother : ∀ k, k ≠ L.blk → (w.heap.setIfInBounds L.blk (Obj.map es1' ck))[k]? = w.heap[k]? := fun k hk => by
    rw [Array.getElem?_setIfInBounds_ne (fun e => hk e.symm)]
  have hne : ∀ b' o' L', b' ≠ b → T b' = some o' → μ b' = some L' → (∀ cs lk, o' = .cells cs lk → L'.ext ≠ 0) → L'.blk ≠ L.blk := by
    intro b' o' L' e1 h1 h2 hx0 e
    obtain ⟨L2, q1, q2⟩ := hw.obj b' o' h1
    rw [h2] at q1; cases q1
    obtain ⟨L3, q3, q4⟩ := hw.obj b _ hT
    rw [hL] at q3; cases q3
    obtain ⟨_, es', ck', q5, _⟩ := q4
    cases o' with
    | ro cs => have := hw.rol b' _ L' h1 rfl h2; omega
    | map es2 =>
      rcases hw.sep b b' _ _ L L' hT h1 (fun e => e1 e.symm) rfl rfl hL h2 with hh | hh
      · have := hh.1; simp [AObj.link] at this
      · obtain ⟨z1, z2⟩ := hw.mapx b es L hT hL
        obtain ⟨z3, z4⟩ := hw.mapx b' es2 L' h1 h2
        rcases hh with hh | hh | hh
        · exact hh e.symm
        · omega
        · omega
    | cells cs lk =>
      obtain ⟨_, hext, _, hcell⟩ := q2
      rcases hw.sep b b' _ _ L L' hT h1 (fun e => e1 e.symm) rfl rfl hL h2 with hh | hh
      · have := hh.1; simp [AObj.link] at this
      · rcases Nat.eq_zero_or_pos L'.ext with e0 | e0
        · exact hx0 cs lk rfl e0
        · obtain ⟨_, v', hc, _⟩ := hcell 0 e0
          rw [World.cell?, e] at hc
          simp [q5] at hc
  refine ⟨⟨⟨hw.below.os, hw.below.tape, hw.below.output, by simpa using hw.below.size, fun k hk => ?_⟩, hw.low, ?_, ?_, hw.gl, ?_, ?_, ?_⟩, ?_, fun _ _ => rfl, ?_, Nat.le_refl _⟩
  · show (w.heap.setIfInBounds L.blk (Obj.map es1' ck))[k]? = _
    rw [hother k (by omega)]
    exact hw.below.block k hk
  · intro b' o' h1
    by_cases e1 : b' = b
    · subst e1
      rw [upd_same] at h1
      cases h1
      refine ⟨L, hL, hN, es1', ck, by simp [hblk], by simpa using hE.1, fun i k v hk => ?_⟩
      obtain ⟨e, q1, q2, q3⟩ := hE.2 i k v hk
      exact ⟨e, by rw [Array.getElem?_toList] at q1; exact q1, q2, q3⟩
    · rw [upd_other _ _ _ e1] at h1
      obtain ⟨L2, q1, q2⟩ := hw.obj b' o' h1
      refine ⟨L2, q1, ?_⟩
      by_cases hx0 : ∀ cs lk, o' = .cells cs lk → L2.ext ≠ 0
      · exact q2.same (fun _ _ h => h) (hother _ (hne b' o' L2 e1 h1 q1 hx0))
      · cases o' with
        | cells cs lk =>
          have e0 : L2.ext = 0 := by
            rcases Nat.eq_zero_or_pos L2.ext with e0 | e0
            · exact e0
            · exact absurd (fun cs' lk' _ => by omega) hx0
          refine ⟨q2.1, q2.2.1, fun cs' t' fr hh => ?_, fun i hi => by omega⟩
          by_cases hk : L2.blk = L.blk
          · rw [hk] at hh
            have : (w.heap.setIfInBounds L.blk (Obj.map es1' ck))[L.blk]? = some (Obj.map es1' ck) := by simp [hblk]
            rw [show ({ w with heap := w.heap.setIfInBounds L.blk (Obj.map es1' ck) } : World).heap = w.heap.setIfInBounds L.blk (Obj.map es1' ck) from rfl, this] at hh
            cases hh
          · exact q2.2.2.1 cs' t' fr (by rw [← hother _ hk]; exact hh)
        | map es2 => exact absurd (fun cs' lk' e => by cases e) hx0
        | ro cs => exact absurd (fun cs' lk' e => by cases e) hx0
  · intro b' o' L2 h1 h2
    simp only [Array.size_setIfInBounds]
    by_cases e1 : b' = b
    · subst e1; rw [hL] at h2; cases h2; exact hblk
    · rw [upd_other _ _ _ e1] at h1; exact hw.old b' o' L2 h1 h2
  · intro b1 b2 o1 o2 L1 L2 h1 h2 hne' r1 r2 k1 k2
    have conv : ∀ b' o', upd T b (some (.map es1)) b' = some o' → ∃ o2, T b' = some o2 ∧ (o2 = o' ∨ (b' = b ∧ o' = .map es1 ∧ o2 = .map es)) := by
      intro b' o' h
      by_cases e1 : b' = b
      · subst e1; rw [upd_same] at h; cases h; exact ⟨_, hT, .inr ⟨rfl, rfl, rfl⟩⟩
      · rw [upd_other _ _ _ e1] at h; exact ⟨o', h, .inl rfl⟩
    obtain ⟨p1, g1, g2⟩ := conv b1 o1 h1
    obtain ⟨p2, g3, g4⟩ := conv b2 o2 h2
    have r1' : p1.isRo = false := by rcases g2 with rfl | ⟨_, _, rfl⟩ <;> first | exact r1 | rfl
    have r2' : p2.isRo = false := by rcases g4 with rfl | ⟨_, _, rfl⟩ <;> first | exact r2 | rfl
    have l1 : p1.link = o1.link := by rcases g2 with rfl | ⟨_, rfl, rfl⟩ <;> rfl
    have l2 : p2.link = o2.link := by rcases g4 with rfl | ⟨_, rfl, rfl⟩ <;> rfl
    have := hw.sep b1 b2 p1 p2 L1 L2 g1 g3 hne' r1' r2' k1 k2
    rw [l1, l2] at this
    exact this
  · intro b' o' L2 h1 h2 h3
    by_cases e1 : b' = b
    · subst e1; rw [upd_same] at h1; cases h1; cases h2
    · rw [upd_other _ _ _ e1] at h1; exact hw.rol b' o' L2 h1 h2 h3
  · intro b' es2 L2 h1 h3
    by_cases e1 : b' = b
    · subst e1; rw [hL] at h3; cases h3; exact hw.mapx b' es L hT hL
    · rw [upd_other _ _ _ e1] at h1; exact hw.mapx b' es2 L2 h1 h3
  · intro b' o' h1
    rcases look_hput hbl h1 with ⟨rfl, e⟩ | ⟨hne2, e⟩
    · rw [upd_same, e]
    · rw [upd_other _ _ _ hne2]; exact hv _ _ e
  · intro b' hb
    rw [upd_other]
    rintro rfl
    rcases hb with ⟨_, hb | hb⟩ | hb
    · omega
    · rw [m3] at hb; cases hb
    · omega


theorem setNth_get : ∀ (es : List (Value × Value)) (i : Nat) (v : Value) (j : Nat), (setNth es i v)[j]? = if j = i then (es[j]?).map fun x => (x.1, v) else es[j]?
  | [], i, v, j => by simp [setNth]
  | (k, u) :: r, 0, v, j => by cases j <;> simp [setNth]
  | x :: r, i + 1, v, j => by
    cases j with
    | zero => simp [setNth]
    | succ j => simp [setNth, setNth_get r i v j]
theorem setNth_length : ∀ (es : List (Value × Value)) (i : Nat) (v : Value), (setNth es i v).length = es.length
  | [], _, _ => rfl
  | (_, _) :: _, 0, _ => rfl
  | _ :: r, i + 1, v => by simp [setNth, setNth_length r i v]

theorem sameBits_atom {d : TypeDesc} {k : Value} (hf : fits d k = true) : Instr.sameBits 10000 k k = true := by
  cases d <;> cases k <;> first | (simp [fits] at hf; done) | (simp [Instr.sameBits]; done) | (simp only [Instr.sameBits]; exact (Go.MapKept.bytes_beq _ _).2 rfl)

theorem findK_key {k : Value} {d : TypeDesc} (hfit : fits d k = true) : ∀ (es : List (Value × Value)) (i : Nat) (j : Nat) (v : Value), findK k es i = some (some (j, v)) → i ≤ j ∧ es[j - i]? = some (k, v)
  | [], i, j, v, h => by simp [findK] at h
  | (k', u) :: r, i, j, v, h => by
    rw [findK] at h
    cases hs : sameK k k' with
    | none => simp [hs] at h
    | some q =>
      cases q with
      | true =>
        simp only [hs, Option.some.injEq, Prod.mk.injEq] at h
        obtain ⟨rfl, rfl⟩ := h
        refine ⟨Nat.le_refl _, ?_⟩
        have : k' = k := by
          unfold sameK at hs
          split at hs
          · rename_i kk x kk' y
            by_cases e : kk = kk'
            · simp [e] at hs; rw [e, hs]
            · simp [e] at hs
          · simp only [Option.some.injEq] at hs; rw [(Go.MapKept.bytes_beq _ _).1 hs]
          · simp only [Option.some.injEq, beq_iff_eq] at hs; rw [hs]
          · cases hs
        simp [this]
      | false =>
        simp only [hs] at h
        obtain ⟨h1, h2⟩ := findK_key hfit r (i + 1) j v h
        refine ⟨by omega, ?_⟩
        rw [show j - i = (j - (i + 1)) + 1 by omega, List.getElem?_cons_succ]
        exact h2

theorem aUpdate_sound {t : TypeId} {m m' k k' v v' : Value} (hw : WR w₀ N μ T w) (hv : View c h T) (hm : VR μ m m') (hk : VR μ k k') (hvv : VR μ v v') (he : aUpdate P c h n t m k v = some h') :
    ∃ w' T', (Instr.mapUpdate t m' k' v').run P w = .ok () w' ∧ Post c h' n n w₀ N μ T μ T' w' := by
  unfold aUpdate at he
  split at he
  case h_2 => cases he
  rename_i x b hmt
  obtain ⟨kt, et⟩ := x
  obtain ⟨hu, d, hd, hkk⟩ := mapT_some hmt
  split at he
  · cases he
  rename_i es hes
  cases hb : (may c n b && keyFits P t k) with
  | false => simp [hb] at he
  | true =>
  simp only [hb, cond_true] at he
  simp only [Bool.and_eq_true] at hb
  obtain ⟨hmay, hkf⟩ := hb
  obtain ⟨hfit, hat⟩ := keyFits_some hkf hu hd
  obtain rfl := atom_eq 3 hat hk
  obtain ⟨hT, L, es', ck, hL, hN, hobj, hE⟩ := entriesAt_get hw hv hes
  have hblk := hw.old _ _ _ hT hL
  cases hm with
  | map _ L' hL' =>
  rw [hL] at hL'; cases hL'
  have hg : (getObj L.blk).run P w = .ok (.map es' ck) w := by simp [getObj, Sem.run, hobj]
  have hset : ∀ o, (setObj L.blk o).run P w = .ok () { w with heap := w.heap.setIfInBounds L.blk o } := fun o => by simp [setObj, Sem.run, hobj]
  split at he
  · cases he
  · rename_i j u hf
    simp only [Option.some.injEq] at he
    subst he
    obtain ⟨r', q1, q2⟩ := findK_now hkk hfit es es'.toList 0 _ hE hf
    obtain ⟨_, hkj⟩ := findK_key hfit es 0 j u hf
    rw [Nat.sub_zero] at hkj
    cases r' with
    | none => exact q2.elim
    | some y =>
      obtain ⟨j', u'⟩ := y
      obtain ⟨rfl, q3, _⟩ := q2
      obtain ⟨e0, p1, p2, p3⟩ := hE.2 j k u hkj
      rw [Array.getElem?_toList] at p1
      have hjlt : j < es'.size := (Array.getElem?_eq_some_iff.1 p1).1
      have hE1 : ES μ (setNth es j v) (es'.modify j fun e => { e with key := k, val := v' }).toList := by
        refine ⟨by rw [setNth_length, hE.1]; simp, fun i k2 v2 hk2 => ?_⟩
        rw [setNth_get] at hk2
        rw [Array.getElem?_toList, Array.getElem?_modify]
        by_cases e1 : i = j
        · subst e1
          rw [if_pos rfl] at hk2 ⊢
          rw [hkj] at hk2
          simp only [Option.map_some, Option.some.injEq, Prod.mk.injEq] at hk2
          obtain ⟨rfl, rfl⟩ := hk2
          exact ⟨_, by rw [p1]; rfl, rfl, hvv⟩
        · rw [if_neg e1] at hk2
          rw [if_neg (fun e => e1 e.symm)]
          obtain ⟨e, r1, r2, r3⟩ := hE.2 i k2 v2 hk2
          exact ⟨e, by rw [Array.getElem?_toList] at r1; exact r1, r2, r3⟩
      refine ⟨_, _, ?_, wr_map (es1' := es'.modify j fun e => { e with key := k, val := v' }) (ck := ck) hw hv hmay hT hL hN hblk hE1⟩
      have hst : (Instr.keyThatStays (((es'[j]?).map (·.key)).getD k) k).run P w = .ok k w := by
        rw [p1]
        simp [Instr.keyThatStays, p2, sameBits_atom hfit]
      unfold Instr.mapUpdate
      simp only [Sem.run_bind, run_underlying hu, Result.andThen_ok, hg, run_checkKey hd hkk, run_findKey hd q1, hst, hset]
  · rename_i hf
    simp only [Option.some.injEq] at he
    subst he
    obtain ⟨r', q1, q2⟩ := findK_now hkk hfit es es'.toList 0 _ hE hf
    cases r' with
    | some _ => exact q2.elim
    | none =>
      have hE1 : ES μ (es ++ [(k, v)]) (es'.push { key := k, val := v', born := ck }).toList := by
        refine ⟨by simp [hE.1], fun i k2 v2 hk2 => ?_⟩
        rw [Array.toList_push]
        by_cases e1 : i < es.length
        · rw [List.getElem?_append_left e1] at hk2
          rw [List.getElem?_append_left (by rw [← hE.1]; exact e1)]
          exact hE.2 i k2 v2 hk2
        · rw [List.getElem?_append_right (by omega)] at hk2
          rw [List.getElem?_append_right (by rw [← hE.1]; omega), ← hE.1]
          have e2 : i - es.length = 0 := by
            have := (List.getElem?_eq_some_iff.1 hk2).1
            simp at this; omega
          rw [e2] at hk2 ⊢
          simp at hk2
          obtain ⟨rfl, rfl⟩ := hk2
          exact ⟨_, rfl, rfl, hvv⟩
      refine ⟨_, _, ?_, wr_map (es1' := es'.push { key := k, val := v', born := ck }) (ck := ck + 1) hw hv hmay hT hL hN hblk hE1⟩
      unfold Instr.mapUpdate
      simp only [Sem.run_bind, run_underlying hu, Result.andThen_ok, hg, run_checkKey hd hkk, run_findKey hd q1, hset]

theorem aDelete_sound {ts : Array TypeId} {ty t : TypeId} {m m' k k' : Value} (h0 : ts[0]? = some t) (hw : WR w₀ N μ T w) (hv : View c h T) (hm : VR μ m m') (hk : VR μ k k') (he : aDelete P c h n t m k = some h') :
    Gives P c h' n n w₀ N μ T w (.tuple #[]) (Builtin.delete_ ts ty #[m', k']) := by
  unfold aDelete at he
  split at he
  case h_2 => cases he
  rename_i x b hmt
  obtain ⟨kt, et⟩ := x
  obtain ⟨hu, d, hd, hkk⟩ := mapT_some hmt
  split at he
  · cases he
  rename_i es hes
  cases hb : (may c n b && keyFits P t k) with
  | false => simp [hb] at he
  | true =>
  simp only [hb, cond_true] at he
  simp only [Bool.and_eq_true] at hb
  obtain ⟨hmay, hkf⟩ := hb
  obtain ⟨hfit, hat⟩ := keyFits_some hkf hu hd
  obtain rfl := atom_eq 3 hat hk
  obtain ⟨hT, L, es', ck, hL, hN, hobj, hE⟩ := entriesAt_get hw hv hes
  have hblk := hw.old _ _ _ hT hL
  have ut : VR μ (.tuple #[]) (.tuple #[]) := .tuple _ _ rfl (fun i p _ => by simp at p)
  cases hm with
  | map _ L' hL' =>
  rw [hL] at hL'; cases hL'
  have hg : (getObj L.blk).run P w = .ok (.map es' ck) w := by simp [getObj, Sem.run, hobj]
  have hset : ∀ o, (setObj L.blk o).run P w = .ok () { w with heap := w.heap.setIfInBounds L.blk o } := fun o => by simp [setObj, Sem.run, hobj]
  split at he
  · cases he
  · rename_i j u hf
    simp only [Option.some.injEq] at he
    subst he
    obtain ⟨r', q1, q2⟩ := findK_now hkk hfit es es'.toList 0 _ hE hf
    cases r' with
    | none => exact q2.elim
    | some y =>
      obtain ⟨j', u'⟩ := y
      obtain ⟨rfl, q3, _⟩ := q2
      have hE1 : ES μ (es.eraseIdx j) (es'.eraseIdxIfInBounds j).toList := by
        have ht : (es'.eraseIdxIfInBounds j).toList = es'.toList.eraseIdx j := by simp
        rw [ht]
        refine ⟨by simp [List.length_eraseIdx, hE.1], fun i k2 v2 hk2 => ?_⟩
        rw [List.getElem?_eraseIdx] at hk2 ⊢
        by_cases e1 : i < j
        · rw [if_pos e1] at hk2 ⊢; exact hE.2 i k2 v2 hk2
        · rw [if_neg e1] at hk2 ⊢; exact hE.2 _ k2 v2 hk2
      refine ⟨_, _, μ, _, ?_, wr_map (es1' := es'.eraseIdxIfInBounds j) (ck := ck) hw hv hmay hT hL hN hblk hE1, ut⟩
      unfold Builtin.delete_
      simp [h0, run_underlying hu, hg, run_checkKey hd hkk, run_findKey hd q1, hset]
  · rename_i hf
    simp only [Option.some.injEq] at he
    subst he
    obtain ⟨r', q1, q2⟩ := findK_now hkk hfit es es'.toList 0 _ hE hf
    cases r' with
    | some _ => exact q2.elim
    | none =>
      refine ⟨_, _, μ, _, ?_, wr_map (es1' := es') (ck := ck) hw hv hmay hT hL hN hblk hE, ut⟩
      unfold Builtin.delete_
      simp [h0, run_underlying hu, hg, run_checkKey hd hkk, run_findKey hd q1, hset]

end
end Go.Proofs.YtpbnpbmiijgeiaaGreatDoor.Ev
