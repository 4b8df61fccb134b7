/- An evaluator of the program's code, fifth part: what stands in memory, and stores. No condition. -/
import Derived.Test.YtpbnpbmiijgeiaaGreatDoorEvD
namespace Go.Proofs.YtpbnpbmiijgeiaaGreatDoor.Ev
open Go Go.RowKit

theorem oneC_oneCell {μ : Mu} {v v' : Value} (h : VR μ v v') (ho : oneC v = true) : v'.oneCell' = true := by
  cases h <;> first | rfl | (simp [oneC] at ho)

theorem splice_get : ∀ (cs : List Value) (o : Nat) (xs : List Value) (i : Nat), o + xs.length ≤ cs.length →
    (splice cs o xs)[i]? = if o ≤ i ∧ i < o + xs.length then xs[i - o]? else cs[i]?
  | cs, 0, [], i, _ => by
    have : ¬(0 ≤ i ∧ i < 0 + ([] : List Value).length) := by simp
    rw [if_neg this]
    cases cs <;> simp [splice]
  | [], 0, x :: xs, i, h => by simp at h
  | d :: cs, 0, x :: xs, i, h => by
    rw [splice]
    cases i with
    | zero => simp
    | succ i =>
      rw [List.getElem?_cons_succ, splice_get cs 0 xs i (by simp at h ⊢; omega)]
      simp only [List.length_cons, List.getElem?_cons_succ, Nat.zero_le, true_and, Nat.zero_add, Nat.sub_zero]
      by_cases hi : i < xs.length
      · rw [if_pos hi, if_pos (by omega)]
      · rw [if_neg hi, if_neg (by omega)]
  | [], o + 1, xs, i, h => by simp at h
  | d :: cs, o + 1, xs, i, h => by
    have hs : splice (d :: cs) (o + 1) xs = d :: splice cs o xs := by cases xs <;> rfl
    rw [hs]
    cases i with
    | zero => simp
    | succ i =>
      rw [List.getElem?_cons_succ, splice_get cs o xs i (by simp at h ⊢; omega)]
      simp only [List.getElem?_cons_succ]
      by_cases hi : o ≤ i ∧ i < o + xs.length
      · rw [if_pos hi, if_pos (by omega)]
        congr 1; omega
      · rw [if_neg hi, if_neg (by omega)]
theorem splice_length (cs : List Value) (o : Nat) (xs : List Value) (h : o + xs.length ≤ cs.length) : (splice cs o xs).length = cs.length := by
  apply Nat.le_antisymm
  · rcases Nat.lt_or_ge cs.length (splice cs o xs).length with hlt | hge
    · have := splice_get cs o xs cs.length h
      rw [if_neg (by omega), List.getElem?_eq_none (Nat.le_refl cs.length), List.getElem?_eq_none_iff] at this
      omega
    · exact hge
  · rcases Nat.lt_or_ge (splice cs o xs).length cs.length with hlt | hge
    · have := splice_get cs o xs (splice cs o xs).length h
      rw [List.getElem?_eq_none (Nat.le_refl (splice cs o xs).length)] at this
      split at this
      · rename_i hi
        have := List.getElem?_eq_none_iff.1 this.symm
        omega
      · have := List.getElem?_eq_none_iff.1 this.symm
        omega
    · exact hge
theorem VRs.splice {μ : Mu} {cs cs' xs xs' : List Value} {o : Nat} (h : VRs μ cs cs') (k : VRs μ xs xs') (ho : o + xs.length ≤ cs.length) : VRs μ (splice cs o xs) (splice cs' o xs') := by
  have ho' : o + xs'.length ≤ cs'.length := by rw [← h.1, ← k.1]; exact ho
  refine ⟨by rw [splice_length _ _ _ ho, splice_length _ _ _ ho', h.1], fun i v hv => ?_⟩
  rw [splice_get _ _ _ _ ho] at hv
  rw [splice_get _ _ _ _ ho', ← k.1]
  by_cases hi : o ≤ i ∧ i < o + xs.length
  · rw [if_pos hi] at hv ⊢; exact k.2 _ v hv
  · rw [if_neg hi] at hv ⊢; exact h.2 _ v hv

/-- the cells of a block that is known -/
theorem cellsAt_get {c : Ctx} {h : Mem} {w₀ : World} {N : Nat} {μ : Mu} {T : AMem} {w : World} {b : Nat} {cs : List Value} (hw : WR w₀ N μ T w) (hv : View c h T) (hc : cellsAt c h b = some cs) :
    ∃ L, μ b = some L ∧ ∀ (i : Nat) v, cs[i]? = some v → ∃ v', w.cell? ⟨L.blk, L.off + i, none⟩ = some v' ∧ VR μ v v' := by
  unfold cellsAt at hc
  split at hc
  · rename_i cs' l hl
    cases hc
    obtain ⟨L, h1, h2, h3, _, h4⟩ := hw.obj _ _ (hv _ _ hl)
    refine ⟨L, h1, fun i v hiv => ?_⟩
    have hi := (List.getElem?_eq_some_iff.1 hiv).1
    obtain ⟨_, v', q1, q2⟩ := h4 i (by omega)
    exact ⟨v', q1, q2 v hiv⟩
  · rename_i cs' hl
    cases hc
    obtain ⟨L, h1, h2⟩ := hw.obj _ _ (hv _ _ hl)
    exact ⟨L, h1, h2⟩
  · cases hc

theorem piece_some {cs : List Value} {o n : Nat} {p : List Value} (h : piece cs o n = some p) : p.length = n ∧ p = (cs.drop o).take n := by
  unfold piece at h
  simp only [] at h
  cases hb : Nat.beq ((cs.drop o).take n).length n with
  | false => rw [hb] at h; cases h
  | true =>
    simp only [hb, cond_true, Option.some.injEq] at h
    subst h
    exact ⟨Tri.beq_true.1 hb, rfl⟩

/-- what a piece reads as -/
theorem read_list {μ : Mu} {w : World} {B O : Nat} : ∀ (p : List Value), (∀ (i : Nat) v, p[i]? = some v → ∃ v', w.cell? ⟨B, O + i, none⟩ = some v' ∧ VR μ v v') →
    ∃ p', VRs μ p p' ∧ ∀ (j : Nat) v, p'[j]? = some v → w.cell? ((⟨B, O, none⟩ : Addr).add j) = some v := by
  intro p hp
  have hadd : ∀ j, (⟨B, O, none⟩ : Addr).add j = ⟨B, O + j, none⟩ := fun j => by unfold Addr.add; split <;> simp_all
  refine ⟨(List.range p.length).map fun j => (w.cell? ⟨B, O + j, none⟩).getD Go.undef, ⟨by simp, fun i v hv => ?_⟩, fun j v hv => ?_⟩
  · have hi := (List.getElem?_eq_some_iff.1 hv).1
    obtain ⟨v', h1, h2⟩ := hp i v hv
    exact ⟨v', by simp [hi, h1], h2⟩
  · have hj : j < p.length := by simpa using (List.getElem?_eq_some_iff.1 hv).1
    obtain ⟨v', h1, h2⟩ := hp j p[j] (by simp)
    rw [hadd, h1]
    simp [hj, h1] at hv
    rw [hv]

theorem read_piece {c : Ctx} {h : Mem} {w₀ : World} {N : Nat} {μ : Mu} {T : AMem} {w : World} {b o n : Nat} {cs p : List Value} {L : Loc} (hw : WR w₀ N μ T w) (hv : View c h T) (hL : μ b = some L)
    (hc : cellsAt c h b = some cs) (hp : piece cs o n = some p) : ∃ p', VRs μ p p' ∧ p'.length = n ∧ ∀ (j : Nat) v, p'[j]? = some v → w.cell? ((⟨L.blk, L.off + o, none⟩ : Addr).add j) = some v := by
  obtain ⟨L', h1, h2⟩ := cellsAt_get hw hv hc
  rw [hL] at h1; cases h1
  obtain ⟨hl, rfl⟩ := piece_some hp
  obtain ⟨p', q1, q2⟩ := read_list (μ := μ) (w := w) (B := L.blk) (O := L.off + o) ((cs.drop o).take n) (fun i v hiv => by
    have hi : i < n := by
      have := (List.getElem?_eq_some_iff.1 hiv).1
      omega
    rw [List.getElem?_take_of_lt hi, List.getElem?_drop] at hiv
    obtain ⟨v', r1, r2⟩ := h2 _ v hiv
    exact ⟨v', by rw [show L.off + o + i = L.off + (o + i) by omega]; exact r1, r2⟩)
  exact ⟨p', q1, by rw [← q1.1]; exact hl, q2⟩

theorem may_some {c : Ctx} {n b : Nat} (h : may c n b = true) : c.lo ≤ b ∧ b < n ∧ inBan c.ban b = false ∧ b ≤ LIM := by
  unfold may at h
  simp only [Bool.and_eq_true, Bool.not_eq_true'] at h
  exact ⟨ble.1 h.1, ble.1 h.2.1, h.2.2.2, ble.1 h.2.2.1⟩

theorem setCells_heap (B : Nat) : ∀ (xs : List Value) (o : Nat) (w : World) (k : Nat), k ≠ B → (w.setCells B o xs).heap[k]? = w.heap[k]?
  | [], _, _, _, _ => rfl
  | x :: xs, o, w, k, h => by rw [World.setCells, setCells_heap B xs (o + 1) _ k h]; exact Below.heap_setCell w _ _ k h
theorem setCells_size (B : Nat) : ∀ (xs : List Value) (o : Nat) (w : World), (w.setCells B o xs).heap.size = w.heap.size
  | [], _, _ => rfl
  | x :: xs, o, w => by rw [World.setCells, setCells_size B xs (o + 1)]; simp [World.setCell]
theorem setCells_below (N B : Nat) (hB : N ≤ B) : ∀ (xs : List Value) (o : Nat) (w₀ w : World), Below N w₀ w → Below N w₀ (w.setCells B o xs)
  | [], _, _, _, h => h
  | x :: xs, o, w₀, w, h => setCells_below N B hB xs (o + 1) w₀ _ (h.setCell hB x)

theorem setCells_mapAt (B : Nat) : ∀ (xs : List Value) (o : Nat) (w : World) (k : Nat) es ck, w.heap[k]? = some (.map es ck) → (w.setCells B o xs).heap[k]? = some (.map es ck)
  | [], _, _, _, _, _, h => h
  | x :: xs, o, w, k, es, ck, h => by
    rw [World.setCells]
    refine setCells_mapAt B xs (o + 1) _ k es ck ?_
    by_cases hk : B = k
    · simp [World.setCell, Array.getElem?_modify, hk, h]
    · simp [World.setCell, Array.getElem?_modify, hk, h]

theorem setCells_shape (B : Nat) : ∀ (xs : List Value) (o : Nat) (w : World) (k : Nat) cs t fr, (w.setCells B o xs).heap[k]? = some (.cells cs t fr) → ∃ cs', w.heap[k]? = some (.cells cs' t fr) ∧ cs'.size = cs.size
  | [], _, _, _, cs, _, _, h => ⟨cs, h, rfl⟩
  | x :: xs, o, w, k, cs, t, fr, h => by
    rw [World.setCells] at h
    obtain ⟨c1, h1, h2⟩ := setCells_shape B xs (o + 1) _ k cs t fr h
    by_cases hk : B = k
    · simp only [World.setCell, Array.getElem?_modify, hk, if_true] at h1
      cases hh : w.heap[k]? with
      | none => rw [hh] at h1; simp at h1
      | some ob =>
        rw [hh] at h1
        cases ob <;> simp at h1
        obtain ⟨h3, rfl, rfl⟩ := h1
        exact ⟨_, rfl, by rw [← h2, ← h3]; simp⟩
    · simp only [World.setCell, Array.getElem?_modify, hk, if_false] at h1
      exact ⟨c1, h1, h2⟩
theorem FZ_setCells {w : World} {k B o : Nat} {xs : List Value} (h : FZ w k) : FZ (w.setCells B o xs) k := by
  intro cs t fr hh
  obtain ⟨c1, h1, h2⟩ := setCells_shape B xs o w k cs t fr hh
  rcases h c1 t fr h1 with h3 | h3
  · exact .inl h3
  · exact .inr (by omega)

/-- what a store needs, and what it leaves -/
structure Wrote (P : Program) (c : Ctx) (h' : Mem) (n : Nat) (w₀ : World) (N : Nat) (μ : Mu) (T : AMem) (w : World) (L : Loc) (o : Nat) (xs' : List Value) : Prop where
  run : (storeCells ⟨L.blk, L.off + o, none⟩ xs').run P w = .ok () (w.setCells L.blk (L.off + o) xs')
  post : ∃ T', Post c h' n n w₀ N μ T μ T' (w.setCells L.blk (L.off + o) xs')

theorem wr_write {P : Program} {c : Ctx} {h h' : Mem} {n b o : Nat} {w₀ : World} {N : Nat} {μ : Mu} {T : AMem} {w : World} {xs xs' : List Value} {L : Loc} (hw : WR w₀ N μ T w) (hv : View c h T) (hL : μ b = some L)
    (hs : aWrite c h n b o xs = some h') (hx : VRs μ xs xs') : Wrote P c h' n w₀ N μ T w L o xs' := by
  unfold aWrite at hs
  split at hs
  case h_2 => cases hs
  rename_i cs link hl
  cases hcond : (may c n b && (Nat.ble (o + xs.length) cs.length && xs.all oneC)) with
  | false => simp [hcond] at hs
  | true =>
  simp only [hcond, cond_true] at hs
  simp only [Bool.and_eq_true] at hcond
  obtain ⟨hmay, hlen, hone⟩ := hcond
  obtain ⟨m1, m2, m3, hbl⟩ := may_some hmay
  have hlen' := ble.1 hlen
  have hTb := hv _ _ hl
  obtain ⟨L', hL', hN, hext, hfz, hcell⟩ := hw.obj _ _ hTb
  rw [hL] at hL'; cases hL'
  have hone' : ∀ v ∈ xs', v.oneCell' = true := by
    intro v hvm
    obtain ⟨i, hi, rfl⟩ := List.getElem_of_mem hvm
    have hi' : i < xs.length := by rw [hx.1]; exact hi
    obtain ⟨v', q1, q2⟩ := hx.2 i xs[i] (by simp [hi'])
    have : v' = xs'[i] := by simpa [hi] using q1.symm
    subst this
    exact oneC_oneCell q2 (List.all_eq_true.1 hone _ (by simp))
  have hthere : ∀ j, j < xs'.length → w.frozen? ⟨L.blk, L.off + o + j, none⟩ = false ∧ (w.cell? ⟨L.blk, L.off + o + j, none⟩).isSome = true := by
    intro j hj
    obtain ⟨q1, v', q2, _⟩ := hcell (o + j) (by rw [← hx.1] at hj; omega)
    rw [show L.off + o + j = L.off + (o + j) by omega]
    exact ⟨q1, by rw [q2]; rfl⟩
  refine ⟨?_, ?_⟩
  · have := run_storeCells_cells (P := P) L.blk (L.off + o) xs' 0 w (fun j hj => by simpa using (hthere j hj).2) (fun j hj => by simpa using (hthere j hj).1) hone'
    simpa using this
  · -- the memory behind it
    have mem : ∀ (T1 : AMem), (∀ b' o', T1 b' = some o' → b' ≠ b → T b' = some o' ∧ link ≠ some b') → T1 b = some (.cells (splice cs o xs) none) → WR w₀ N μ T1 (w.setCells L.blk (L.off + o) xs') := by
      intro T1 hT1 hT1b
      have hkeep : ∀ b' o', T1 b' = some o' → b' ≠ b → ∃ L2, μ b' = some L2 ∧ OR N μ (w.setCells L.blk (L.off + o) xs') L2 o' := by
        intro b' o' h1 hne
        obtain ⟨h1', hlk⟩ := hT1 b' o' h1 hne
        obtain ⟨L2, e1, e2⟩ := hw.obj b' o' h1'
        refine ⟨L2, e1, ?_⟩
        cases o' with
        | map es =>
          obtain ⟨d1, es', ck, d2, d3, d4⟩ := e2
          exact ⟨d1, es', ck, setCells_mapAt _ _ _ _ _ _ _ d2, d3, d4⟩
        | ro cs2 =>
          have hlo := hw.rol b' _ L2 h1' rfl e1
          intro i v hiv
          obtain ⟨v', d1, d2⟩ := e2 i v hiv
          refine ⟨v', ?_, d2⟩
          rw [World.cell?_setCells_out]
          · exact d1
          · intro e _; simp at e; omega
        | cells cs2 lk2 =>
          obtain ⟨d1, d2, d4, d3⟩ := e2
          refine ⟨d1, d2, FZ_setCells d4, fun i hi => ?_⟩
          obtain ⟨f1, v', f2, f3⟩ := d3 i hi
          refine ⟨by rw [World.frozen?_setCells]; exact f1, v', ?_, f3⟩
          rw [World.cell?_setCells_out]
          · exact f2
          · intro e _
            simp only [] at e ⊢
            rcases hw.sep b b' _ _ L L2 hTb h1' (fun e => hne e.symm) rfl rfl hL e1 with hlk' | hap
            · exact absurd hlk'.1 hlk
            · rw [← hx.1]
              rcases hap with hap | hap | hap
              · exact absurd e.symm hap
              · right; omega
              · left; omega
      refine ⟨setCells_below N L.blk hN _ _ _ _ hw.below, hw.low, ?_, ?_, hw.gl, ?_, ?_, ?_⟩
      · intro b' o' h1
        by_cases hne : b' = b
        · subst hne
          rw [hT1b] at h1
          cases h1
          refine ⟨L, hL, hN, by rw [splice_length _ _ _ hlen']; exact hext, FZ_setCells hfz, fun i hi => ?_⟩
          obtain ⟨f1, v', f2, f3⟩ := hcell i hi
          refine ⟨by rw [World.frozen?_setCells]; exact f1, ?_⟩
          by_cases hin : o ≤ i ∧ i < o + xs.length
          · have hj : i - o < xs'.length := by rw [← hx.1]; omega
            have := World.cell?_setCells_in L.blk xs' (L.off + o) w (fun j hj => (hthere j hj).2) (i - o) hj
            rw [show L.off + o + (i - o) = L.off + i by omega] at this
            refine ⟨_, this, fun v hvv => ?_⟩
            rw [splice_get _ _ _ _ hlen', if_pos hin] at hvv
            obtain ⟨u, q1, q2⟩ := hx.2 _ v hvv
            have : u = xs'[i - o] := by simpa [hj] using q1.symm
            exact this ▸ q2
          · refine ⟨v', ?_, fun v hvv => ?_⟩
            · rw [World.cell?_setCells_out]
              · exact f2
              · intro _ _; simp only []; rw [← hx.1]; omega
            · rw [splice_get _ _ _ _ hlen', if_neg hin] at hvv
              exact f3 v hvv
        · exact hkeep b' o' h1 hne
      · intro b' o' L2 h1 h2
        rw [setCells_size]
        by_cases hne : b' = b
        · subst hne; exact hw.old b' _ L2 hTb h2
        · exact hw.old b' o' L2 (hT1 b' o' h1 hne).1 h2
      · intro b1 b2 o1 o2 L1 L2 h1 h2 hne r1 r2 k1 k2
        by_cases e1 : b1 = b
        · subst e1
          rw [hL] at k1; cases k1
          obtain ⟨h2', hlk⟩ := hT1 b2 o2 h2 (fun e => hne e.symm)
          rcases hw.sep b1 b2 _ o2 L L2 hTb h2' hne rfl r2 hL k2 with hh | hh
          · exact absurd hh.1 hlk
          · exact .inr hh
        · obtain ⟨h1', hlk1⟩ := hT1 b1 o1 h1 e1
          by_cases e2 : b2 = b
          · subst e2
            rw [hL] at k2; cases k2
            rcases hw.sep b1 b2 o1 _ L1 L h1' hTb hne r1 rfl k1 hL with hh | hh
            · exact absurd hh.2 hlk1
            · exact .inr hh
          · obtain ⟨h2', hlk2⟩ := hT1 b2 o2 h2 e2
            exact hw.sep b1 b2 o1 o2 L1 L2 h1' h2' hne r1 r2 k1 k2
      · intro b' o' L2 h1 h2 h3
        by_cases hne : b' = b
        · subst hne; rw [hT1b] at h1; cases h1; cases h2
        · exact hw.rol b' o' L2 (hT1 b' o' h1 hne).1 h2 h3
      · intro b' es L2 h1 h3
        by_cases hne : b' = b
        · subst hne; rw [hT1b] at h1; cases h1
        · exact hw.mapx b' es L2 (hT1 b' _ h1 hne).1 h3
    cases link with
    | none =>
      simp only [Option.some.injEq] at hs
      subst hs
      refine ⟨upd T b (some (.cells (splice cs o xs) none)), mem _ (fun b' o' h1 hne => ?_) (upd_same _ _ _), ?_, fun _ _ => rfl, ?_, Nat.le_refl _⟩
      · rw [upd_other _ _ _ hne] at h1
        exact ⟨h1, by simp⟩
      · intro b' o' hb'
        rcases look_hput hbl hb' with ⟨rfl, e⟩ | ⟨hne, e⟩
        · rw [upd_same, e]
        · rw [upd_other _ _ _ hne]; exact hv _ _ e
      · intro b' hb'
        rw [upd_other]
        rintro rfl
        rcases hb' with ⟨_, hb' | hb'⟩ | hb'
        · omega
        · rw [m3] at hb'; cases hb'
        · omega
    | some l =>
      simp only [] at hs
      cases hc2 : (may c n l && !(Nat.beq l b)) with
      | false => simp [hc2] at hs
      | true =>
      simp only [hc2, cond_true, Option.some.injEq] at hs
      subst hs
      simp only [Bool.and_eq_true, Bool.not_eq_true'] at hc2
      obtain ⟨hml, hlb⟩ := hc2
      obtain ⟨p1, p2, p3, hll⟩ := may_some hml
      have hne : l ≠ b := fun e => by rw [e] at hlb; rw [Nat.beq_refl] at hlb; cases hlb
      refine ⟨upd (upd T l none) b (some (.cells (splice cs o xs) none)), mem _ (fun b' o' h1 hne' => ?_) (upd_same _ _ _), ?_, fun _ _ => rfl, ?_, Nat.le_refl _⟩
      · rw [upd_other _ _ _ hne'] at h1
        by_cases hl' : b' = l
        · subst hl'; rw [upd_same] at h1; cases h1
        · rw [upd_other _ _ _ hl'] at h1
          exact ⟨h1, fun e => hl' (by cases e; rfl)⟩
      · intro b' o' hb'
        rcases look_hput hbl hb' with ⟨rfl, e⟩ | ⟨hne', e⟩
        · rw [upd_same, e]
        · rw [upd_other _ _ _ hne']
          rcases look_hput hll e with ⟨e1, e2⟩ | ⟨hne2, e2⟩
          · cases e2
          · rw [upd_other _ _ _ hne2]; exact hv _ _ e2
      · intro b' hb'
        rw [upd_other, upd_other]
        · rintro rfl
          rcases hb' with ⟨_, hb' | hb'⟩ | hb'
          · omega
          · rw [p3] at hb'; cases hb'
          · omega
        · rintro rfl
          rcases hb' with ⟨_, hb' | hb'⟩ | hb'
          · omega
          · rw [m3] at hb'; cases hb'
          · omega

end Go.Proofs.YtpbnpbmiijgeiaaGreatDoor.Ev
