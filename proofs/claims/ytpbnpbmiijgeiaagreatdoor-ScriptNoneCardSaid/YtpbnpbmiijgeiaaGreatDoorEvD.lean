/- An evaluator of the program's code, fourth part: what new memory, stores and loads do to what belongs together. No condition. -/
import Derived.Test.YtpbnpbmiijgeiaaGreatDoorEvC
import Derived.Laws.IdiomCopy
import Derived.Laws.Cells
namespace Go.Proofs.YtpbnpbmiijgeiaaGreatDoor.Ev
open Go Go.RowKit

def View (c : Ctx) (h : Mem) (T : AMem) : Prop := ∀ b o, look c h b = some o → T b = some o
def Fresh (μ : Mu) (T : AMem) (n n' : Nat) : Prop := ∀ b, n ≤ b → b < n' → T b = none ∧ μ b = none

structure ER (μ : Mu) (nt : Nat) (env : Env) (a : Act) : Prop where
  size : a.tmps.size = nt
  val : ∀ t, VR μ ((env.find t).getD undef) (a.tmps.getD t undef)

structure Post (c : Ctx) (h' : Mem) (n n' : Nat) (w₀ : World) (N : Nat) (μ : Mu) (T : AMem) (μ' : Mu) (T' : AMem) (w' : World) : Prop where
  rel : WR w₀ N μ' T' w'
  view : View c h' T'
  mu : ∀ b, ¬(n ≤ b ∧ b < n') → μ' b = μ b
  keep : ∀ b, (b < n ∧ (b < c.lo ∨ inBan c.ban b = true)) ∨ n' ≤ b → T' b = T b
  le : n ≤ n'

theorem Post.sub {c : Ctx} {h' : Mem} {n n' : Nat} {w₀ : World} {N : Nat} {μ μ' : Mu} {T T' : AMem} {w' : World} (p : Post c h' n n' w₀ N μ T μ' T' w') (hf : Fresh μ T n n') : ∀ b L, μ b = some L → μ' b = some L := by
  intro b L hb
  by_cases hh : n ≤ b ∧ b < n'
  · rw [(hf b hh.1 hh.2).2] at hb; cases hb
  · rw [p.mu b hh]; exact hb

theorem Post.refl {c : Ctx} {h : Mem} {n : Nat} {w₀ : World} {N : Nat} {μ : Mu} {T : AMem} {w : World} (hw : WR w₀ N μ T w) (hv : View c h T) : Post c h n n w₀ N μ T μ T w :=
  ⟨hw, hv, fun _ _ => rfl, fun _ _ => rfl, Nat.le_refl _⟩

theorem Fresh.left {μ : Mu} {T : AMem} {n m k : Nat} (h : Fresh μ T n k) (hm : m ≤ k) : Fresh μ T n m := fun b h1 h2 => h b h1 (by omega)
/-- behind a first step the names of the second one are still fresh -/
theorem Post.fresh {c : Ctx} {h' : Mem} {n m k : Nat} {w₀ : World} {N : Nat} {μ μ' : Mu} {T T' : AMem} {w' : World} (p : Post c h' n m w₀ N μ T μ' T' w') (hf : Fresh μ T n k) : Fresh μ' T' m k := by
  intro b h1 h2
  have := p.le
  obtain ⟨q1, q2⟩ := hf b (by omega) h2
  exact ⟨by rw [p.keep b (.inr h1)]; exact q1, by rw [p.mu b (by omega)]; exact q2⟩
theorem Post.trans {c : Ctx} {h1 h2 : Mem} {n m k : Nat} {w₀ : World} {N : Nat} {μ μ1 μ2 : Mu} {T T1 T2 : AMem} {w1 w2 : World}
    (p : Post c h1 n m w₀ N μ T μ1 T1 w1) (q : Post c h2 m k w₀ N μ1 T1 μ2 T2 w2) : Post c h2 n k w₀ N μ T μ2 T2 w2 := by
  have := p.le
  have := q.le
  refine ⟨q.rel, q.view, fun b hb => ?_, fun b hb => ?_, by omega⟩
  · rw [q.mu b (by omega), p.mu b (by omega)]
  · rw [q.keep b (by rcases hb with hb | hb; exact .inl ⟨by omega, hb.2⟩; exact .inr hb), p.keep b (by rcases hb with hb | hb; exact .inl hb; exact .inr (by omega))]

theorem ER.mono {μ μ' : Mu} {nt : Nat} {env : Env} {a : Act} (hm : ∀ b L, μ b = some L → μ' b = some L) (h : ER μ nt env a) : ER μ' nt env a :=
  ⟨h.size, fun t => (h.val t).mono hm⟩

theorem OR.same {N : Nat} {μ μ' : Mu} {w w' : World} {L : Loc} {o : AObj} (hm : ∀ b L, μ b = some L → μ' b = some L) (hb : w'.heap[L.blk]? = w.heap[L.blk]?) (h : OR N μ w L o) : OR N μ' w' L o := by
  have hc : ∀ i, w'.cell? ⟨L.blk, i, none⟩ = w.cell? ⟨L.blk, i, none⟩ := fun i => by simp [World.cell?, hb]
  have hf : ∀ i, w'.frozen? ⟨L.blk, i, none⟩ = w.frozen? ⟨L.blk, i, none⟩ := fun i => by simp [World.frozen?, hb]
  cases o with
  | cells c l =>
    obtain ⟨h1, h2, h4, h3⟩ := h
    refine ⟨h1, h2, fun cs t fr hh => h4 cs t fr (by rw [← hb]; exact hh), fun i hi => ?_⟩
    obtain ⟨q1, v', q2, q3⟩ := h3 i hi
    exact ⟨by rw [hf]; exact q1, v', by rw [hc]; exact q2, fun v hv => (q3 v hv).mono hm⟩
  | map es =>
    obtain ⟨h1, es', ck, h2, h3, h4⟩ := h
    refine ⟨h1, es', ck, by rw [hb]; exact h2, h3, fun i k v hk => ?_⟩
    obtain ⟨e, q1, q2, q3⟩ := h4 i k v hk
    exact ⟨e, q1, q2, q3.mono hm⟩
  | ro c =>
    intro i v hv
    obtain ⟨v', q1, q2⟩ := h i v hv
    exact ⟨v', by rw [hc]; exact q1, q2.mono hm⟩

theorem WR.drew {w₀ : World} {N : Nat} {μ : Mu} {T : AMem} {w : World} (h : WR w₀ N μ T w) : WR w₀ N μ T { w with drawn := w.drawn + 1 } :=
  ⟨⟨h.below.os, h.below.tape, h.below.output, h.below.size, h.below.block⟩, h.low, fun b o hb => let ⟨L, h1, h2⟩ := h.obj b o hb; ⟨L, h1, h2.same (fun _ _ h => h) rfl⟩,
    h.old, h.gl, h.sep, h.rol, h.mapx⟩

def upd {α : Type} (f : Nat → α) (n : Nat) (x : α) : Nat → α := fun b => if b = n then x else f b
theorem upd_same {α : Type} (f : Nat → α) (n : Nat) (x : α) : upd f n x n = x := by simp [upd]
theorem upd_other {α : Type} (f : Nat → α) (n : Nat) (x : α) {b : Nat} (h : b ≠ n) : upd f n x b = f b := by simp [upd, h]

theorem ble {a b : Nat} : Nat.ble a b = true ↔ a ≤ b := ⟨Nat.le_of_ble_eq_true, Nat.ble_eq_true_of_le⟩

theorem find_hput {h : Mem} {b : Nat} {o : Option AObj} {j : Nat} (hb : b ≤ LIM) : (hput h b o).find j = if j = b then o else h.find j := by
  unfold hput
  exact Tri.find_put 32 h b o j (by unfold LIM at hb; omega)
theorem look_hput {c : Ctx} {h : Mem} {b : Nat} {o : Option AObj} {j : Nat} {x : AObj} (hb : b ≤ LIM) (hl : look c (hput h b o) j = some x) : (j = b ∧ o = some x) ∨ (j ≠ b ∧ look c h j = some x) := by
  unfold look at *
  cases hban : inBan c.ban j with
  | true => simp [hban] at hl
  | false =>
    simp only [hban, cond_false] at hl ⊢
    rw [find_hput hb] at hl
    by_cases hj : j = b
    · rw [if_pos hj] at hl; exact .inl ⟨hj, hl⟩
    · rw [if_neg hj] at hl; exact .inr ⟨hj, hl⟩

theorem aNew_some {h h' : Mem} {n n' : Nat} {o : AObj} (hn : aNew h n o = some (h', n')) : n ≤ LIM ∧ h' = hput h n (some o) ∧ n' = n + 1 := by
  unfold aNew at hn
  cases hb : Nat.ble n LIM with
  | false => simp [hb] at hn
  | true =>
    simp only [hb, cond_true, Option.some.injEq, Prod.mk.injEq] at hn
    exact ⟨ble.1 hb, hn.1.symm, hn.2.symm⟩

theorem size_alloc (w : World) (ob : Obj) : (w.alloc ob).heap.size = w.heap.size + 1 := by
  show (w.heap.push ob).size = _
  simp
theorem heap_alloc_new (w : World) (ob : Obj) : (w.alloc ob).heap[w.heap.size]? = some ob := by
  show (w.heap.push ob)[w.heap.size]? = _
  simp
theorem heap_alloc_old {w : World} {ob : Obj} {k : Nat} (h : k < w.heap.size) : (w.alloc ob).heap[k]? = w.heap[k]? := Below.heap_alloc w ob k h

/-- a new block under a new name -/
theorem wr_new {c : Ctx} {h h' : Mem} {n n' : Nat} {w₀ : World} {N : Nat} {μ : Mu} {T : AMem} {w : World} {o : AObj} (hw : WR w₀ N μ T w) (hv : View c h T)
    (hn : aNew h n o = some (h', n')) (hf : Fresh μ T n n') (ob : Obj) (L : Loc) (hL : L.blk = w.heap.size) (hor : OR N (upd μ n (some L)) (w.alloc ob) L o)
    (hro : o.isRo = false) (hm : ∀ es, o = .map es → L.off = 0 ∧ L.ext = 1) :
    Post c h' n n' w₀ N μ T (upd μ n (some L)) (upd T n (some o)) (w.alloc ob) := by
  obtain ⟨hlim, rfl, rfl⟩ := aNew_some hn
  obtain ⟨hfT, hfμ⟩ := hf n (Nat.le_refl _) (by omega)
  have hN : N ≤ w.heap.size := Nat.le_trans hw.low hw.below.size
  have hsub : ∀ b L', μ b = some L' → upd μ n (some L) b = some L' := by
    intro b L' hb
    rw [upd_other]
    · exact hb
    · rintro rfl; rw [hfμ] at hb; cases hb
  have hold : ∀ b o' L', b ≠ n → upd T n (some o) b = some o' → upd μ n (some L) b = some L' → L'.blk < w.heap.size := fun b o' L' hb h1 h => by
    rw [upd_other _ _ _ hb] at h h1; exact hw.old b o' L' h1 h
  refine ⟨⟨hw.below.alloc hN ob, hw.low, ?_, ?_, ?_, ?_, ?_, ?_⟩, ?_, ?_, ?_, by omega⟩
  · intro b o' hb
    by_cases hbn : b = n
    · subst hbn
      rw [upd_same] at hb
      cases hb
      exact ⟨L, upd_same _ _ _, hor⟩
    · rw [upd_other _ _ _ hbn] at hb
      obtain ⟨L', h1, h2⟩ := hw.obj b o' hb
      exact ⟨L', hsub _ _ h1, h2.same hsub (heap_alloc_old (hw.old b o' L' hb h1))⟩
  · intro b o' L' hb hb2
    by_cases hbn : b = n
    · subst hbn
      rw [upd_same] at hb2
      cases hb2
      rw [hL, size_alloc]; omega
    · have := hold b o' L' hbn hb hb2
      rw [size_alloc]; omega
  · intro g hg
    obtain ⟨e, he⟩ := hw.gl g hg
    exact ⟨e, hsub _ _ he⟩
  · intro b b' o1 o2 L1 L2 h1 h2 hne r1 r2 m1 m2
    by_cases hbn : b = n
    · subst hbn
      have hb' : b' ≠ b := fun e => hne e.symm
      rw [upd_same] at m1
      cases m1
      have := hold b' o2 L2 hb' h2 m2
      exact .inr (.inl (by rw [hL]; omega))
    · by_cases hbn' : b' = n
      · subst hbn'
        rw [upd_same] at m2
        cases m2
        have := hold b o1 L1 hbn h1 m1
        exact .inr (.inl (by rw [hL]; omega))
      · rw [upd_other _ _ _ hbn] at h1 m1
        rw [upd_other _ _ _ hbn'] at h2 m2
        exact hw.sep b b' o1 o2 L1 L2 h1 h2 hne r1 r2 m1 m2
  · intro b o' L' h1 h2 h3
    by_cases hbn : b = n
    · subst hbn
      rw [upd_same] at h1
      cases h1
      rw [hro] at h2; cases h2
    · rw [upd_other _ _ _ hbn] at h1 h3
      exact hw.rol b o' L' h1 h2 h3
  · intro b es L' h1 h3
    by_cases hbn : b = n
    · subst hbn
      rw [upd_same] at h1 h3
      cases h1; cases h3
      exact hm es rfl
    · rw [upd_other _ _ _ hbn] at h1 h3
      exact hw.mapx b es L' h1 h3
  · intro b o' hb
    rcases look_hput hlim hb with ⟨rfl, e⟩ | ⟨hne, e⟩
    · rw [upd_same, e]
    · rw [upd_other _ _ _ hne]; exact hv b o' e
  · intro b hb
    rw [upd_other]
    rintro rfl; omega
  · intro b hb
    rw [upd_other]
    rintro rfl; omega

theorem cell_new {w : World} {cs : Array Value} {t : TypeId} {fr : Nat × Nat} (i : Nat) : (w.alloc (.cells cs t fr)).cell? ⟨w.heap.size, i, none⟩ = cs[i]? := by
  unfold World.cell?
  simp only [heap_alloc_new]
  rfl
theorem frozen_new {w : World} {cs : Array Value} {t : TypeId} (i : Nat) : (w.alloc (.cells cs t)).frozen? ⟨w.heap.size, i, none⟩ = false := by
  unfold World.frozen?
  simp only [heap_alloc_new]
  simp

theorem FZ_new (w : World) (cs : Array Value) (t : TypeId) : FZ (w.alloc (.cells cs t)) w.heap.size := by
  intro cs' t' fr hh
  rw [heap_alloc_new] at hh
  cases hh
  exact .inl rfl

/-- a new row of cells -/
theorem wr_cells {c : Ctx} {h h' : Mem} {n n' : Nat} {w₀ : World} {N : Nat} {μ : Mu} {T : AMem} {w : World} {xs xs' rest : List Value} {t : TypeId} (hw : WR w₀ N μ T w) (hv : View c h T)
    (hn : aNew h n (.cells xs none) = some (h', n')) (hf : Fresh μ T n n') (hx : VRs μ xs xs') :
    Post c h' n n' w₀ N μ T (upd μ n (some ⟨w.heap.size, 0, (xs' ++ rest).length⟩)) (upd T n (some (.cells xs none))) (w.alloc (.cells (xs' ++ rest).toArray t)) := by
  have hfn := (hf n (Nat.le_refl _) (by have := (aNew_some hn).2.2; omega)).2
  refine wr_new hw hv hn hf _ _ rfl ⟨Nat.le_trans hw.low hw.below.size, by simp [hx.1], FZ_new w _ t, fun i hi => ⟨by simp only [Nat.zero_add]; exact frozen_new i, ?_⟩⟩ rfl (by intro es he; cases he)
  simp only [Nat.zero_add]
  rw [cell_new]
  simp only [] at hi
  refine ⟨(xs' ++ rest)[i], by simp [hi], fun v hvv => ?_⟩
  obtain ⟨v', h1, h2⟩ := hx.2 i v hvv
  have hi' : i < xs'.length := (List.getElem?_eq_some_iff.1 h1).1
  have : (xs' ++ rest)[i] = v' := by
    rw [List.getElem_append_left hi']
    exact (List.getElem?_eq_some_iff.1 h1).2
  rw [this]
  refine h2.mono fun b L hb => ?_
  rw [upd_other]
  · exact hb
  · rintro rfl; rw [hfn] at hb; cases hb

end Go.Proofs.YtpbnpbmiijgeiaaGreatDoor.Ev
