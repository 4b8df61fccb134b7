/- An evaluator of the program's code, tenth part: append, whole. No condition. -/
import Derived.Test.YtpbnpbmiijgeiaaGreatDoorEvI
namespace Go.Proofs.YtpbnpbmiijgeiaaGreatDoor.Ev
open Go Go.RowKit

section
variable {P : Program} {w : World}

/-- what an operation that hands back a value needs -/
def Gives (P : Program) (c : Ctx) (h' : Mem) (n n' : Nat) (w₀ : World) (N : Nat) (μ : Mu) (T : AMem) (w : World) (r : Value) (s : Sem Value) : Prop :=
  ∃ r' w' μ' T', s.run P w = .ok r' w' ∧ Post c h' n n' w₀ N μ T μ' T' w' ∧ VR μ' r r'

/-- what all appends ask of their types -/
structure AppT (P : Program) (ts : Array TypeId) (t t1 e s : Nat) (d : TypeDesc) : Prop where
  h0 : ts[0]? = some t
  h1 : ts[1]? = some t1
  hu : P.underlying t = some (.slice e)
  hu1 : P.underlying t1 = some d
  hd : isIntD d = false
  hs : sizeT P e = some s

set_option maxHeartbeats 2000000 in
theorem run_append_in {ts : Array TypeId} {ty t t1 e s : Nat} {d : TypeDesc} (ht : AppT P ts t t1 e s d) {base : Option Addr} {len cap' m : Nat} {x' : Value} {news : List Value}
    (hlen : ∀ w₁, (Builtin.lenOf x').run P w₁ = .ok m w₁) (hnew : (Builtin.firstCells s m x').run P w = .ok news.toArray w) (hin : len + m ≤ cap') (w' : World)
    (hst : match base with | some a => (storeCells (a.add (len * s)) news).run P w = .ok () w' | none => w' = w) :
    (Builtin.append_ ts ty #[.slice base len cap', x']).run P w = .ok (.slice base (len + m) cap') w' := by
  obtain ⟨h0, h1, hu, hu1, hd, hs⟩ := ht
  have hsz := run_sizeT hs
  unfold Builtin.append_
  cases base with
  | none =>
    subst hst
    cases d <;> first | (simp [isIntD] at hd; done) | simp [h0, h1, run_underlying hu, run_underlying hu1, hsz, hlen, hin, hnew]
  | some a => cases d <;> first | (simp [isIntD] at hd; done) | (simp at hst; simp [h0, h1, run_underlying hu, run_underlying hu1, hsz, hlen, hin, hnew, hst])

theorem aGrow_sound {c : Ctx} {h h' : Mem} {n n' : Nat} {w₀ : World} {N : Nat} {μ : Mu} {T : AMem} {ts : Array TypeId} {ty t t1 e s : Nat} {d : TypeDesc} (ht : AppT P ts t t1 e s d) {base : Option Addr} {len cap' m : Nat} {x' r : Value} {old news old' news' : List Value}
    (hw : WR w₀ N μ T w) (hv : View c h T) (hf : Fresh μ T n n') (he : aGrow P h n e s (len + m) (old ++ news) = some (r, h', n'))
    (hlen : ∀ w₁, (Builtin.lenOf x').run P w₁ = .ok m w₁) (hnew : ∀ w₁ : World, w₁.heap = w.heap → (Builtin.firstCells s m x').run P w₁ = .ok news'.toArray w₁)
    (hold : ∀ w₁ : World, w₁.heap = w.heap → (Builtin.firstCells s len (.slice base len cap')).run P w₁ = .ok old'.toArray w₁) (hgrow : cap' < len + m)
    (ho : VRs μ old old') (hn : VRs μ news news') (hol : old.length = len * s) (hnl : news.length = m * s) :
    Gives P c h' n n' w₀ N μ T w r (Builtin.append_ ts ty #[.slice base len cap', x']) := by
  unfold aGrow at he
  split at he
  case h_2 => cases he
  rename_i i z hi hz
  cases hb : (Nat.ble ((len + m) * (i.bytes + 1)) BIG && (Nat.beq z.cells.size s && (Nat.ble 1 s && Nat.ble 1 i.bytes))) with
  | false => simp [hb] at he
  | true =>
  simp only [hb, cond_true] at he
  simp only [Bool.and_eq_true] at hb
  obtain ⟨b1, b2, b3, b4⟩ := hb
  have hbig := ble.1 b1
  have hzs := Tri.beq_true.1 b2
  have hs1 := ble.1 b3
  have hby := ble.1 b4
  obtain ⟨⟨h1, n1⟩, ha, hre⟩ := Option.map_eq_some_iff.1 he
  simp only [Prod.mk.injEq] at hre
  obtain ⟨rfl, rfl, rfl⟩ := hre
  have hB : (BIG : Nat) = 4294967296 := rfl
  have hbig2 : (len + m) * i.bytes + (len + m) ≤ 4294967296 := by rw [Nat.mul_add, Nat.mul_one] at hbig; omega
  obtain ⟨c'', hc, rest, hrl, hrun⟩ := run_append_grow (P := P) (w := w) (ty := ty) ht.h0 ht.h1 ht.hu ht.hu1 ht.hd ht.hs hi hz hzs hby hlen hnew hold hgrow (by omega)
  have hx := ho.append hn
  have hwd : WR w₀ N μ T { w with drawn := w.drawn + 1 } := hw.drew
  have hp := wr_cells (rest := rest) (t := e) hwd hv ha hf hx
  refine ⟨_, _, _, _, hrun, hp, ?_⟩
  have hlen2 : ((old' ++ news') ++ rest).length = c'' * s := by
    rw [List.length_append, hrl, ← hx.1, List.length_append, hol, hnl, Nat.sub_mul]
    have : (len + m) * s ≤ c'' * s := Nat.mul_le_mul_right s hc
    rw [Nat.add_mul] at this ⊢
    omega
  exact .slo _ 0 _ _ s _ _ c'' (upd_same _ _ _) (Nat.le_refl _) hc hs1 (by unfold OPEN; omega) (fun _ => ⟨by simp, by simp only [hlen2]; omega⟩)

/-- stores beside it -/
theorem OR.setCells {N : Nat} {μ : Mu} {L L2 : Loc} {o' : AObj} {O : Nat} {xs : List Value} (h : OR N μ w L2 o') (hro : o'.isRo = true → L2.blk < N) (hN : N ≤ L.blk) (hap : o'.isRo = false → Apart L L2)
    (hlo : L.off ≤ O) (hhi : O + xs.length ≤ L.off + L.ext) : OR N μ (w.setCells L.blk O xs) L2 o' := by
  cases o' with
  | map es =>
    obtain ⟨d1, es', ck, d2, d3, d4⟩ := h
    exact ⟨d1, es', ck, setCells_mapAt _ _ _ _ _ _ _ d2, d3, d4⟩
  | ro cs2 =>
    have := hro rfl
    intro i v hiv
    obtain ⟨v', d1, d2⟩ := h i v hiv
    refine ⟨v', ?_, d2⟩
    rw [World.cell?_setCells_out]
    · exact d1
    · intro e _; simp at e; omega
  | cells cs2 lk2 =>
    obtain ⟨d1, d2, d4, d3⟩ := h
    refine ⟨d1, d2, FZ_setCells d4, fun i hi => ?_⟩
    obtain ⟨f1, v', f2, f3⟩ := d3 i hi
    refine ⟨by rw [World.frozen?_setCells]; exact f1, v', ?_, f3⟩
    rw [World.cell?_setCells_out]
    · exact f2
    · intro e _
      simp only [] at e ⊢
      rcases hap rfl with hap | hap | hap
      · exact absurd e.symm hap
      · right; omega
      · left; omega

noncomputable def unlinkM (h : Mem) : Option Nat → Mem
  | none => h
  | some l => hput h l none
def unlinkT (T : AMem) : Option Nat → AMem
  | none => T
  | some l => upd T l none

/-- a row that may have grown in place: the old name and the new one, linked -/
theorem wr_split {c : Ctx} {h : Mem} {n b : Nat} {w₀ : World} {N : Nat} {μ : Mu} {T : AMem} {cs : List Value} {link : Option Nat} {old : List Value} {new : List Value} {L Ln : Loc} {w' : World} (hw : WR w₀ N μ T w) (hv : View c h T)
    (hl : look c h b = some (.cells cs link)) (hmay : may c n b = true) (hn : n ≤ LIM) (hf : Fresh μ T n (n + 1)) (hL : μ b = some L) (hlk : ∀ l, link = some l → may c n l = true ∧ l ≠ b)
    (hbel : Below N w₀ w') (hsz : w.heap.size ≤ w'.heap.size) (hLn : Ln.blk < w'.heap.size) (hN : N ≤ Ln.blk)
    (hkeep : ∀ L2 o', L2.blk < w.heap.size → (o'.isRo = true → L2.blk < N) → ((∃ es, o' = .map es) → L2.off = 0 ∧ L2.ext = 1) → (o'.isRo = false → Apart L L2) → OR N μ w L2 o' → OR N (upd μ n (some Ln)) w' L2 o')
    (hold : OR N (upd μ n (some Ln)) w' L (.cells old (some n))) (hnew : OR N (upd μ n (some Ln)) w' Ln (.cells new (some b)))
    (hap : ∀ L2, L2.blk < w.heap.size → Apart L L2 → Apart Ln L2) :
    Post c (hput (hput (unlinkM h link) b (some (.cells old (some n)))) n (some (.cells new (some b)))) n (n + 1) w₀ N μ T (upd μ n (some Ln))
      (upd (upd (unlinkT T link) b (some (.cells old (some n)))) n (some (.cells new (some b)))) w' := by
  obtain ⟨m1, m2, m3, hbl⟩ := may_some hmay
  obtain ⟨hfT, hfμ⟩ := hf n (Nat.le_refl _) (by omega)
  have hTb := hv _ _ hl
  have hbn : b ≠ n := by omega
  have hsub : ∀ b L', μ b = some L' → upd μ n (some Ln) b = some L' := by
    intro b' L' hb
    rw [upd_other]
    · exact hb
    · rintro rfl; rw [hfμ] at hb; cases hb
  -- the others
  have hT0 : ∀ b' o', b' ≠ n → b' ≠ b → (upd (upd (unlinkT T link) b (some (.cells old (some n)))) n (some (.cells new (some b)))) b' = some o' → T b' = some o' ∧ link ≠ some b' := by
    intro b' o' e1 e2 h1
    rw [upd_other _ _ _ e1, upd_other _ _ _ e2] at h1
    cases link with
    | none => exact ⟨h1, by simp⟩
    | some l =>
      rw [show unlinkT T (some l) = upd T l none from rfl] at h1
      by_cases e : b' = l
      · subst e; rw [upd_same] at h1; cases h1
      · rw [upd_other _ _ _ e] at h1
        exact ⟨h1, fun q => e (by cases q; rfl)⟩
  have hapb : ∀ b' o' L', b' ≠ b → T b' = some o' → link ≠ some b' → o'.isRo = false → μ b' = some L' → Apart L L' := by
    intro b' o' L' e1 h1 h2 h3 h4
    rcases hw.sep b b' _ o' L L' hTb h1 (fun e => e1 e.symm) rfl h3 hL h4 with hh | hh
    · exact absurd hh.1 h2
    · exact hh
  have apsymm : ∀ {A B : Loc}, Apart A B → Apart B A := by
    intro A B h
    rcases h with h | h | h
    · exact .inl fun e => h e.symm
    · exact .inr (.inr h)
    · exact .inr (.inl h)
  refine ⟨⟨hbel, hw.low, ?_, ?_, ?_, ?_, ?_, ?_⟩, ?_, ?_, ?_, by omega⟩
  · intro b' o' h1
    by_cases e1 : b' = n
    · subst e1; rw [upd_same] at h1; cases h1; exact ⟨Ln, upd_same _ _ _, hnew⟩
    · by_cases e2 : b' = b
      · subst e2; rw [upd_other _ _ _ e1, upd_same] at h1; cases h1; exact ⟨L, hsub _ _ hL, hold⟩
      · obtain ⟨h2, h3⟩ := hT0 b' o' e1 e2 h1
        obtain ⟨L2, q1, q2⟩ := hw.obj b' o' h2
        exact ⟨L2, hsub _ _ q1, hkeep L2 o' (hw.old b' o' L2 h2 q1) (fun hr => hw.rol b' o' L2 h2 hr q1) (fun ⟨es, e⟩ => by subst e; exact hw.mapx b' es L2 h2 q1) (fun hr => hapb b' o' L2 e2 h2 h3 hr q1) q2⟩
  · intro b' o' L2 h1 h2
    by_cases e1 : b' = n
    · subst e1; rw [upd_same] at h2; cases h2; exact hLn
    · rw [upd_other _ _ _ e1] at h2
      by_cases e2 : b' = b
      · subst e2; rw [hL] at h2; cases h2; have := hw.old b' _ L hTb hL; omega
      · have := hw.old b' o' L2 (hT0 b' o' e1 e2 h1).1 h2; omega
  · intro g hg
    obtain ⟨e, he⟩ := hw.gl g hg
    exact ⟨e, hsub _ _ he⟩
  · intro b1 b2 o1 o2 L1 L2 h1 h2 hne r1 r2 k1 k2
    by_cases e1 : b1 = n
    · subst e1
      rw [upd_same] at h1 k1
      cases h1; cases k1
      have e2' : b2 ≠ b1 := fun e => hne e.symm
      rw [upd_other _ _ _ e2'] at k2
      by_cases e2 : b2 = b
      · subst e2
        rw [upd_other _ _ _ e2', upd_same] at h2
        cases h2
        exact .inl ⟨rfl, rfl⟩
      · obtain ⟨q1, q2⟩ := hT0 b2 o2 e2' e2 h2
        exact .inr (hap L2 (hw.old b2 o2 L2 q1 k2) (hapb b2 o2 L2 e2 q1 q2 r2 k2))
    · rw [upd_other _ _ _ e1] at k1
      by_cases e2 : b2 = n
      · subst e2
        rw [upd_same] at h2 k2
        cases h2; cases k2
        by_cases e3 : b1 = b
        · subst e3
          rw [upd_other _ _ _ e1, upd_same] at h1
          cases h1
          exact .inl ⟨rfl, rfl⟩
        · obtain ⟨q1, q2⟩ := hT0 b1 o1 e1 e3 h1
          exact .inr (apsymm (hap L1 (hw.old b1 o1 L1 q1 k1) (hapb b1 o1 L1 e3 q1 q2 r1 k1)))
      · rw [upd_other _ _ _ e2] at k2
        by_cases e3 : b1 = b
        · subst e3
          rw [hL] at k1; cases k1
          obtain ⟨q1, q2⟩ := hT0 b2 o2 e2 (fun e => hne e.symm) h2
          exact .inr (hapb b2 o2 L2 (fun e => hne e.symm) q1 q2 r2 k2)
        · by_cases e4 : b2 = b
          · subst e4
            rw [hL] at k2; cases k2
            obtain ⟨q1, q2⟩ := hT0 b1 o1 e1 e3 h1
            exact .inr (apsymm (hapb b1 o1 L1 e3 q1 q2 r1 k1))
          · exact hw.sep b1 b2 o1 o2 L1 L2 (hT0 b1 o1 e1 e3 h1).1 (hT0 b2 o2 e2 e4 h2).1 hne r1 r2 k1 k2
  · intro b' o' L2 h1 h2 h3
    by_cases e1 : b' = n
    · subst e1; rw [upd_same] at h1; cases h1; cases h2
    · rw [upd_other _ _ _ e1] at h3
      by_cases e2 : b' = b
      · subst e2; rw [upd_other _ _ _ e1, upd_same] at h1; cases h1; cases h2
      · exact hw.rol b' o' L2 (hT0 b' o' e1 e2 h1).1 h2 h3
  · intro b' es L2 h1 h3
    by_cases e1 : b' = n
    · subst e1; rw [upd_same] at h1; cases h1
    · rw [upd_other _ _ _ e1] at h3
      by_cases e2 : b' = b
      · subst e2; rw [upd_other _ _ _ e1, upd_same] at h1; cases h1
      · exact hw.mapx b' es L2 (hT0 b' _ e1 e2 h1).1 h3
  · intro b' o' h1
    rcases look_hput hn h1 with ⟨rfl, e⟩ | ⟨hne, e⟩
    · rw [upd_same, e]
    · rw [upd_other _ _ _ hne]
      rcases look_hput hbl e with ⟨rfl, e3⟩ | ⟨hne2, e3⟩
      · rw [upd_same, e3]
      · rw [upd_other _ _ _ hne2]
        clear e
        have e := e3
        cases link with
        | none => exact hv _ _ e
        | some l =>
          rw [show unlinkM h (some l) = hput h l none from rfl] at e
          rw [show unlinkT T (some l) = upd T l none from rfl]
          rcases look_hput (may_some (hlk l rfl).1).2.2.2 e with ⟨e1, e2⟩ | ⟨hne3, e2⟩
          · cases e2
          · rw [upd_other _ _ _ hne3]; exact hv _ _ e2
  · intro b' hb
    rw [upd_other]
    rintro rfl; omega
  · intro b' hb
    have hno : ∀ x, may c n x = true → b' ≠ x := by
      rintro x hx rfl
      obtain ⟨p1, p2, p3, _⟩ := may_some hx
      rcases hb with ⟨_, hb | hb⟩ | hb
      · omega
      · rw [p3] at hb; cases hb
      · omega
    rw [upd_other _ _ _ (by rcases hb with ⟨hb, _⟩ | hb <;> omega), upd_other _ _ _ (hno b hmay)]
    cases link with
    | none => rfl
    | some l => exact upd_other _ _ _ (hno l (hlk l rfl).1)


theorem aAppend_sound {c : Ctx} {h h' : Mem} {n n' : Nat} {w₀ : World} {N : Nat} {μ : Mu} {T : AMem} {ts : Array TypeId} {ty t t1 e s : Nat} {d : TypeDesc} (ht : AppT P ts t t1 e s d) {v v' x x' r : Value}
    (hw : WR w₀ N μ T w) (hv : View c h T) (hf : Fresh μ T n n') (hvv : VR μ v v') (hx : VR μ x x') (he : aAppend P c h n e s v x = some (r, h', n')) :
    Gives P c h' n n' w₀ N μ T w r (Builtin.append_ ts ty #[v', x']) := by
  unfold aAppend at he
  split at he
  · cases he
  rename_i m news hnews
  obtain ⟨news', hlen, hnew, hnn, hnl⟩ := newsOf_sound hw hv hx hnews
  have hnew0 : (Builtin.firstCells s m x').run P w = .ok news'.toArray w := hnew w rfl
  cases hm : Nat.beq m 0 with
  | true =>
    simp only [hm, cond_true] at he
    have hm0 := Tri.beq_true.1 hm
    subst hm0
    have hn0 : news' = [] := by
      have := hnn.1
      rw [hnl] at this
      simpa using this.symm
    subst hn0
    split at he
    · rename_i base len cap
      simp only [Option.some.injEq, Prod.mk.injEq] at he
      obtain ⟨rfl, rfl, rfl⟩ := he
      cases hvv with
      | nils =>
        refine ⟨_, w, μ, T, run_append_in (P := P) (ty := ty) ht hlen hnew0 (Nat.le_refl _) w rfl, Post.refl hw hv, .nils⟩
      | sl b o _ _ L a hL hl hc ha =>
        refine ⟨_, w, μ, T, run_append_in (P := P) (ty := ty) ht hlen hnew0 (by omega) w (by simp [storeCells]), Post.refl hw hv, .sl b o _ _ L a hL hl hc ha⟩
      | slo b o _ q u L a c' hL hl hc hu hb ha =>
        refine ⟨_, w, μ, T, run_append_in (P := P) (ty := ty) ht hlen hnew0 (by omega) w (by simp [storeCells]), Post.refl hw hv, .slo b o _ q u L a c' hL hl hc hu hb ha⟩
    · cases he
  | false =>
  simp only [hm, cond_false] at he
  have hm0 : m ≠ 0 := beqF.1 hm
  split at he
  · rename_i len cap
    cases hb : (Nat.beq len 0 && Nat.beq cap 0) with
    | false => simp [hb] at he
    | true =>
    simp only [hb, cond_true] at he
    cases hvv
    exact aGrow_sound (P := P) (old := []) (old' := []) (base := none) (len := 0) (cap' := 0) ht hw hv hf (by simpa using he) hlen hnew (fun w₁ _ => by simp [Builtin.firstCells]) (by omega) VRs.nil hnn (by simp) hnl
  · rename_i b o len cap
    try dsimp only at he
    -- what the actual slice is
    have key : ∃ L u q a cap', v' = .slice (some a) len cap' ∧ μ b = some L ∧ len ≤ q ∧ q < OPEN ∧ cap / OPEN = u ∧ cap % OPEN = q ∧ q ≤ cap' ∧ cap = OPEN * u + q ∧ (u = 0 → cap' = q ∧ (q ≠ 0 → a = ⟨L.blk, L.off + o, none⟩)) ∧ (u ≠ 0 → cap' ≠ 0 → a = ⟨L.blk, L.off + o, none⟩ ∧ o + cap' * u ≤ L.ext) := by
      cases hvv with
      | sl _ _ _ _ L a hL hl hc ha =>
        exact ⟨L, 0, cap, a, cap, rfl, hL, hl, hc, Nat.div_eq_of_lt hc, Nat.mod_eq_of_lt hc, Nat.le_refl _, by omega, fun _ => ⟨rfl, ha⟩, fun e => absurd rfl e⟩
      | slo _ _ _ q u L a c' hL hl hc hu hb ha =>
        refine ⟨L, u, q, a, c', rfl, hL, hl, hb, ?_, ?_, hc, rfl, fun e => by omega, fun _ => ha⟩
        · rw [Nat.mul_add_div (by unfold OPEN; omega), Nat.div_eq_of_lt hb]; omega
        · rw [Nat.mul_add_mod, Nat.mod_eq_of_lt hb]
    obtain ⟨L, u, q, a, cap', rfl, hL, hlq, hq, hu, hqq, hqc, hcap, hex, hop⟩ := key
    rw [hu, hqq] at he
    have haddr : cap' ≠ 0 → q ≠ 0 ∨ u ≠ 0 → a = ⟨L.blk, L.off + o, none⟩ := by
      intro h1 h2
      rcases Nat.eq_zero_or_pos u with e | e
      · exact (hex e).2 (by omega)
      · exact (hop (by omega) h1).1
    have back : ∀ k, k ≤ q → VR μ (.slice (some ⟨b, o, none⟩) k cap) (.slice (some a) k cap') := by
      intro k hk
      rcases Nat.eq_zero_or_pos u with e | e
      · obtain ⟨h1, h2⟩ := hex e
        have : cap = q := by rw [hcap, e]; omega
        rw [this, h1]
        exact .sl b o k q L a hL hk hq h2
      · rw [hcap]
        exact .slo b o k q u L a cap' hL hk hqc e hq (hop (by omega))
    cases hle : Nat.ble (len + m) q with
    | true =>
      simp only [hle, cond_true] at he
      have hle' := ble.1 hle
      cases hus : (Nat.beq u 0 || Nat.beq u s) with
      | false => simp [hus] at he
      | true =>
      simp only [hus, cond_true] at he
      obtain ⟨h1, hwr, hre⟩ := Option.map_eq_some_iff.1 he
      simp only [Prod.mk.injEq] at hre
      obtain ⟨rfl, rfl, rfl⟩ := hre
      obtain ⟨hrun, T', hp⟩ := wr_write (P := P) hw hv hL hwr hnn
      have := haddr (by omega) (.inl (by omega))
      subst this
      refine ⟨_, _, μ, T', run_append_in (P := P) (ty := ty) ht hlen hnew0 (by omega) _ (by
        simp only [add_mid]
        rw [Nat.add_assoc L.off o (len * s)]
        exact hrun), hp, back _ hle'⟩
    | false =>
      simp only [hle, cond_false] at he
      have hle' : q < len + m := by
        rcases Nat.lt_or_ge q (len + m) with h1 | h1
        · exact h1
        · rw [ble.2 h1] at hle; cases hle
      split at he
      · cases he
      rename_i old hold
      -- what the old row reads as
      have hrow : ∃ old', (∀ w₁ : World, w₁.heap = w.heap → (Builtin.firstCells s len (.slice (some a) len cap')).run P w₁ = .ok old'.toArray w₁) ∧ VRs μ old old' ∧ old.length = len * s ∧
          (∀ cs link, look c h b = some (.cells cs link) → ∀ i, i < len * s → old[i]? = cs[o + i]?) := by
        cases hz : Nat.beq len 0 with
        | true =>
          simp only [hz, cond_true, Option.some.injEq] at hold
          subst hold
          have := Tri.beq_true.1 hz
          subst this
          exact ⟨[], fun w₁ hh => by simp [Builtin.firstCells, loadCells, loadCellsFrom], VRs.nil, by simp, fun _ _ _ i hi => by simp at hi⟩
        | false =>
          simp only [hz, cond_false] at hold
          obtain ⟨cs, hc, hp⟩ := Option.bind_eq_some_iff.1 hold
          obtain ⟨p', q1, q2, q3⟩ := read_piece hw hv hL hc hp
          have hne : len ≠ 0 := beqF.1 hz
          have := haddr (by omega) (.inl (by omega))
          subst this
          refine ⟨p', fun w₁ hh => ?_, q1, (piece_some hp).1, fun cs2 lk hl2 i hi => ?_⟩
          · have := run_loadCells_list (P := P) w₁ ⟨L.blk, L.off + o, none⟩ p' (fun j v hj => by have := q3 j v hj; unfold World.cell? at this ⊢; rw [hh]; exact this)
            rw [q2] at this
            simp [Builtin.firstCells, this]
          · have : cs2 = cs := by unfold cellsAt at hc; rw [hl2] at hc; simpa using hc
            subst this
            obtain ⟨_, r2⟩ := piece_some hp
            rw [r2, List.getElem?_take_of_lt hi, List.getElem?_drop]
      obtain ⟨old', hold', hoo, hol, hocs⟩ := hrow
      cases hu0 : Nat.beq u 0 with
      | true =>
        simp only [hu0, cond_true] at he
        have hcq := (hex (Tri.beq_true.1 hu0)).1
        exact aGrow_sound (P := P) ht hw hv hf he hlen hnew hold' (by omega) hoo hnn hol hnl
      | false =>
        simp only [hu0, cond_false] at he
        have hu1 : u ≠ 0 := beqF.1 hu0
        cases hus : Nat.beq u s with
        | false => simp [hus] at he
        | true =>
        simp only [hus, cond_true] at he
        have hus' : u = s := Tri.beq_true.1 hus
        subst hus'
        split at he
        case h_2 => cases he
        rename_i cs link hl
        cases hmay : may c n b with
        | false => simp [hmay] at he
        | true =>
        simp only [hmay, cond_true] at he
        split at he
        case h_2 => cases he
        rename_i i z hi hz
        cases hb : (Nat.ble ((len + m) * (i.bytes + 1)) BIG && (Nat.beq z.cells.size u && (Nat.ble 1 i.bytes && (Nat.ble n LIM && news.all oneC)))) with
        | false => simp [hb] at he
        | true =>
        simp only [hb, cond_true] at he
        simp only [Bool.and_eq_true] at hb
        obtain ⟨b1, b2, b3, b4, b5⟩ := hb
        have hbig := ble.1 b1
        have hzs := Tri.beq_true.1 b2
        have hby := ble.1 b3
        have hnl4 := ble.1 b4
        have hB : (BIG : Nat) = 4294967296 := rfl
        have hbig2 : (len + m) * i.bytes + (len + m) ≤ 4294967296 := by rw [Nat.mul_add, Nat.mul_one] at hbig; omega
        have hlk : (∀ l, link = some l → may c n l = true ∧ l ≠ b) ∧ r = .slice (some ⟨n, 0, none⟩) (len + m) (OPEN * u + (len + m)) ∧ n' = n + 1 ∧
            h' = hput (hput (unlinkM h link) b (some (.cells (cs.take (o + len * u)) (some n)))) n (some (.cells (old ++ news) (some b))) := by
          cases link with
          | none =>
            simp only [Option.some.injEq, Prod.mk.injEq] at he
            exact ⟨(fun l e => by cases e), he.1.symm, he.2.2.symm, he.2.1.symm⟩
          | some l =>
            try dsimp only at he
            cases hc2 : (may c n l && !(Nat.beq l b)) with
            | false => simp [hc2] at he
            | true =>
            simp only [hc2, cond_true, Option.some.injEq, Prod.mk.injEq] at he
            simp only [Bool.and_eq_true, Bool.not_eq_true'] at hc2
            exact ⟨(fun l' e => by cases e; exact ⟨hc2.1, beqF.1 hc2.2⟩), he.1.symm, he.2.2.symm, he.2.1.symm⟩
        obtain ⟨hlk, rfl, rfl, rfl⟩ := hlk
        obtain ⟨hfT, hfμ⟩ := hf n (Nat.le_refl _) (by omega)
        have hTb := hv _ _ hl
        obtain ⟨L', hL', hN, hext, hfz, hcell⟩ := hw.obj _ _ hTb
        rw [hL] at hL'; cases hL'
        have hLb := hw.old _ _ _ hTb hL
        have hsub : ∀ Ln : Loc, ∀ b L', μ b = some L' → upd μ n (some Ln) b = some L' := by
          intro Ln b' L' hb
          rw [upd_other]
          · exact hb
          · rintro rfl; rw [hfμ] at hb; cases hb
        have hu0' : 0 < u := by omega
        have hln1 : (old ++ news).length = (len + m) * u := by rw [List.length_append, hol, hnl, Nat.add_mul]
        have hone' : ∀ v ∈ news', v.oneCell' = true := by
          intro v hvm
          obtain ⟨i, hi, rfl⟩ := List.getElem_of_mem hvm
          have hi' : i < news.length := by rw [hnn.1]; exact hi
          obtain ⟨v', q1, q2⟩ := hnn.2 i news[i] (by simp [hi'])
          have : v' = news'[i] := by simpa [hi] using q1.symm
          subst this
          exact oneC_oneCell q2 (List.all_eq_true.1 b5 _ (by simp))
        rcases Nat.lt_or_ge cap' (len + m) with hgr | hin
        · -- it grows
          obtain ⟨c'', hc, rest, hrl, hrun⟩ := run_append_grow (P := P) (w := w) (ty := ty) ht.h0 ht.h1 ht.hu ht.hu1 ht.hd ht.hs hi hz hzs hby hlen hnew hold' hgr (by omega)
          have hx := hoo.append hnn
          have hlen2 : ((old' ++ news') ++ rest).length = c'' * u := by
            rw [List.length_append, hrl, ← hx.1, hln1, Nat.sub_mul]
            have : (len + m) * u ≤ c'' * u := Nat.mul_le_mul_right u hc
            omega
          refine ⟨_, _, _, _, hrun, wr_split (Ln := ⟨w.heap.size, 0, c'' * u⟩) hw hv hl hmay hnl4 hf hL hlk
            (((hw.drew).below).alloc (Nat.le_trans hw.low hw.below.size) _) (by rw [size_alloc]; exact Nat.le_succ _) (by rw [size_alloc]; exact Nat.lt_succ_self _) (Nat.le_trans hw.low hw.below.size) ?_ ?_ ?_ ?_, ?_⟩
          · intro L2 o' h1 _ _ _ h3
            exact h3.same (hsub _) (heap_alloc_old (w := { w with drawn := w.drawn + 1 }) h1)
          · have h3 : OR N μ w L (.cells (cs.take (o + len * u)) (some n)) :=
              ⟨hN, by rw [List.length_take]; omega, hfz, fun i hi => by
                obtain ⟨f1, v', f2, f3⟩ := hcell i hi
                refine ⟨f1, v', f2, fun v hvv => f3 v ?_⟩
                by_cases hlt : i < o + len * u
                · rwa [List.getElem?_take_of_lt hlt] at hvv
                · rw [List.getElem?_take_eq_none (by omega)] at hvv; cases hvv⟩
            exact h3.same (hsub _) (heap_alloc_old (w := { w with drawn := w.drawn + 1 }) hLb)
          · refine ⟨Nat.le_trans hw.low hw.below.size, by rw [hln1]; exact Nat.mul_le_mul_right u hc, FZ_new { w with drawn := w.drawn + 1 } _ e, fun i hi => ⟨by simp only [Nat.zero_add]; exact frozen_new (w := { w with drawn := w.drawn + 1 }) i, ?_⟩⟩
            simp only [Nat.zero_add]
            have hi' : i < ((old' ++ news') ++ rest).length := by rw [hlen2]; exact hi
            refine ⟨((old' ++ news') ++ rest)[i], ?_, fun v hvv => ?_⟩
            · have := cell_new (w := { w with drawn := w.drawn + 1 }) (cs := ((old' ++ news') ++ rest).toArray) (t := e) (fr := (0, 0)) i
              rw [this]
              simp [hi']
            · obtain ⟨v', h1, h2⟩ := hx.2 i v hvv
              have hi2 : i < (old' ++ news').length := (List.getElem?_eq_some_iff.1 h1).1
              have : ((old' ++ news') ++ rest)[i] = v' := by
                rw [List.getElem_append_left hi2]
                exact (List.getElem?_eq_some_iff.1 h1).2
              rw [this]
              exact h2.mono (hsub _)
          · intro L2 h1 _
            exact .inl (by simp only []; omega)
          · exact .slo _ 0 _ _ u _ _ c'' (upd_same _ _ _) (Nat.le_refl _) hc hu0' (by unfold OPEN; omega) (fun _ => ⟨by simp, by simp⟩)
        · -- in place
          obtain ⟨haa, hoe⟩ := hop hu1 (by omega)
          subst haa
          have hcu : (len + m) * u ≤ cap' * u := Nat.mul_le_mul_right u hin
          have hmu : (len + m) * u = len * u + m * u := Nat.add_mul _ _ _
          have hthere : ∀ j, j < news'.length → w.frozen? ⟨L.blk, L.off + (o + len * u) + j, none⟩ = false ∧ (w.cell? ⟨L.blk, L.off + (o + len * u) + j, none⟩).isSome = true := by
            intro j hj
            rw [← hnn.1, hnl] at hj
            obtain ⟨q1, v', q2, _⟩ := hcell (o + len * u + j) (by omega)
            rw [show L.off + (o + len * u) + j = L.off + (o + len * u + j) by omega]
            exact ⟨q1, by rw [q2]; rfl⟩
          have hst := run_storeCells_cells (P := P) L.blk (L.off + (o + len * u)) news' 0 w (fun j hj => by simpa using (hthere j hj).2) (fun j hj => by simpa using (hthere j hj).1) hone'
          refine ⟨_, w.setCells L.blk (L.off + (o + len * u)) news', _, _, run_append_in (P := P) (ty := ty) ht hlen hnew0 hin _ (by
            simp only [add_mid]
            rw [Nat.add_assoc L.off o]
            simpa using hst), wr_split (Ln := ⟨L.blk, L.off + o, cap' * u⟩) hw hv hl hmay hnl4 hf hL hlk
            (setCells_below N L.blk hN _ _ _ _ hw.below) (by rw [setCells_size]; exact Nat.le_refl _) (by rw [setCells_size]; exact hLb) hN ?_ ?_ ?_ ?_, ?_⟩
          · intro L2 o' h1 hro _ hap h3
            exact (h3.setCells hro hN (fun hr => hap hr) (by omega) (by rw [← hnn.1, hnl]; omega)).same (hsub _) rfl
          · refine ⟨hN, by rw [List.length_take]; omega, FZ_setCells hfz, fun i hi => ?_⟩
            obtain ⟨f1, v', f2, f3⟩ := hcell i hi
            refine ⟨by rw [World.frozen?_setCells]; exact f1, ?_⟩
            by_cases hlt : i < o + len * u
            · refine ⟨v', ?_, fun v hvv => (f3 v ?_).mono (hsub _)⟩
              · rw [World.cell?_setCells_out]
                · exact f2
                · intro _ _; simp only []; omega
              · rwa [List.getElem?_take_of_lt hlt] at hvv
            · obtain ⟨v2, hv2⟩ : ∃ v2, (w.setCells L.blk (L.off + (o + len * u)) news').cell? ⟨L.blk, L.off + i, none⟩ = some v2 := by
                by_cases hin2 : i < o + len * u + news'.length
                · have := World.cell?_setCells_in L.blk news' (L.off + (o + len * u)) w (fun j hj => (hthere j hj).2) (i - (o + len * u)) (by omega)
                  rw [show L.off + (o + len * u) + (i - (o + len * u)) = L.off + i by omega] at this
                  exact ⟨_, this⟩
                · exact ⟨v', by
                    rw [World.cell?_setCells_out]
                    · exact f2
                    · intro _ _; simp only []; omega⟩
              refine ⟨v2, hv2, fun v hvv => ?_⟩
              rw [List.getElem?_take_eq_none (by omega)] at hvv; cases hvv
          · refine ⟨hN, by rw [hln1]; exact hcu, FZ_setCells hfz, fun i hi => ?_⟩
            simp only [] at hi ⊢
            obtain ⟨f1, v', f2, f3⟩ := hcell (o + i) (by omega)
            refine ⟨by rw [World.frozen?_setCells, Nat.add_assoc]; exact f1, ?_⟩
            by_cases h1 : i < len * u
            · refine ⟨v', ?_, fun v hvv => (f3 v ?_).mono (hsub _)⟩
              · rw [World.cell?_setCells_out, Nat.add_assoc]
                · exact f2
                · intro _ _; simp only []; omega
              · rw [List.getElem?_append_left (by omega), hocs cs link hl i h1] at hvv
                exact hvv
            · by_cases h2 : i < (len + m) * u
              · have hj : i - len * u < news'.length := by rw [← hnn.1, hnl]; omega
                have := World.cell?_setCells_in L.blk news' (L.off + (o + len * u)) w (fun j hj => (hthere j hj).2) (i - len * u) hj
                rw [show L.off + (o + len * u) + (i - len * u) = L.off + o + i by omega] at this
                refine ⟨_, this, fun v hvv => ?_⟩
                rw [List.getElem?_append_right (by omega), hol] at hvv
                obtain ⟨x1, q1, q2⟩ := hnn.2 _ v hvv
                have : x1 = news'[i - len * u] := by simpa [hj] using q1.symm
                exact this ▸ q2.mono (hsub _)
              · refine ⟨v', ?_, fun v hvv => ?_⟩
                · rw [World.cell?_setCells_out, Nat.add_assoc]
                  · exact f2
                  · intro _ _; simp only []; rw [← hnn.1, hnl]; omega
                · rw [List.getElem?_eq_none (by omega)] at hvv; cases hvv
          · intro L2 _ hap
            rcases hap with hap | hap | hap
            · exact .inl hap
            · exact .inr (.inl (by simp only []; omega))
            · exact .inr (.inr (by simp only []; omega))
          · exact .slo _ 0 _ _ u _ _ cap' (upd_same _ _ _) (Nat.le_refl _) hin hu0' (by unfold OPEN; omega) (fun _ => ⟨by simp, by simp⟩)
  · cases he

end
end Go.Proofs.YtpbnpbmiijgeiaaGreatDoor.Ev
