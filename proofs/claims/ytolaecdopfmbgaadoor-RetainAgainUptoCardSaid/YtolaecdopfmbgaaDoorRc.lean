/- A range over a function whose iterator keeps its own captured cells: the same law as in Ac, with the count of draws followed: it never falls. For any program. -/
import Derived.Test.YtolaecdopfmbgaaDoorAc
import Derived.BigQuiet
namespace Go
open Go.RowKit

theorem World.ask_drawn {α : Type} : ∀ (k : Ask α) (w : World), w.drawn ≤ (w.ask k).2.drawn := by
  intro k
  induction k with
  | done a => intro w; exact Nat.le_refl _
  | ask what range k ih =>
    intro w
    unfold World.ask
    simp only
    split
    · exact ih _ _
    · exact Nat.le_trans (Nat.le_succ _) (ih _ { w with drawn := w.drawn + 1 })
theorem World.sys_drawn (w : World) (c : Sys) : w.drawn ≤ (w.sys c).2.drawn := by
  have h := World.ask_drawn (Kernel.perform c w.os) w
  unfold World.sys
  generalize w.ask (Kernel.perform c w.os) = r at *
  obtain ⟨⟨ret, os⟩, w'⟩ := r
  cases ret <;> first | exact h | exact Nat.le_refl _
theorem World.viewStore_drawn (p : Program) (w : World) (at_ : Addr) (u : TypeId) (k : Addr) (v : Value) (atomic : Bool) (w' : World) (l : List Addr)
    (h : w.viewStore p at_ u k v atomic = .ok (w', l)) : w'.drawn = w.drawn := by
  unfold World.viewStore at h
  simp only [bind, Except.bind, pure, Except.pure, throw, throwThe, MonadExceptOf.throw] at h
  repeat' split at h
  all_goals first | (cases h; done) | (injection h with h; injection h with h1 h2; rw [← h1])
theorem World.farStore_drawn (p : Program) (w : World) (a : Addr) (v : Value) (atomic : Bool) (w' : World) (l : List Addr) (h : w.farStore p a v atomic = .ok (w', l)) : w'.drawn = w.drawn := by
  unfold World.farStore at h
  split at h
  · rename_i at_ u e
    split at h
    · rename_i r hr
      injection h with h
      subst h
      exact World.viewStore_drawn p w at_ u a v atomic w' l hr
    · cases h
  · cases h
/-- what a run has drawn never falls -/
theorem Sem.run_drawn {α : Type} (p : Program) (s : Sem α) : ∀ (w : World) (a : α) (w' : World), s.run p w = .ok a w' → w.drawn ≤ w'.drawn := by
  induction s with
  | pure a => intro w x w' h; simp only [Sem.run] at h; injection h with _ h; subst h; exact Nat.le_refl _
  | load m a k ih =>
    intro w x w' h; simp only [Sem.run] at h
    split at h
    · exact ih _ _ _ _ h
    · split at h
      · exact ih _ _ _ _ h
      · cases h
  | store m a v k ih =>
    intro w x w' h
    have hm : ∀ w1, (∀ cs, v ≠ .agg cs) → (∀ cs, v ≠ .tuple cs) → (Sem.store m a v k).run p w1 = match w1.cell? a with
      | some _ => if w1.frozen? a then .halt (.unsupported (.unsafePointer "a write to bytes that a string shares")) w1 else k.run p (w1.setCell a v)
      | none => match w1.farStore p a v (m == .atomic) with
        | .ok (w, _) => k.run p w
        | .error h => .halt h w1 := by intro w1 h1 h2; cases v <;> first | rfl | exact absurd rfl (h1 _) | exact absurd rfl (h2 _)
    by_cases h1 : ∃ cs, v = .agg cs
    · obtain ⟨cs, rfl⟩ := h1; simp only [Sem.run] at h; cases h
    by_cases h2 : ∃ cs, v = .tuple cs
    · obtain ⟨cs, rfl⟩ := h2; simp only [Sem.run] at h; cases h
    rw [hm w (fun cs e => h1 ⟨cs, e⟩) (fun cs e => h2 ⟨cs, e⟩)] at h
    split at h
    · split at h
      · cases h
      · have := ih _ _ _ h; simpa [World.setCell] using this
    · split at h
      · rename_i w1 l hf
        have h3 := World.farStore_drawn _ _ _ _ _ _ _ hf
        have := ih _ _ _ h; omega
      · cases h
  | new o k ih => intro w x w' h; simp only [Sem.run] at h; have := ih _ _ _ _ h; exact this
  | shape r k ih => intro w x w' h; simp only [Sem.run] at h; exact ih _ _ _ _ h
  | freeze a n k ih =>
    intro w x w' h; simp only [Sem.run] at h; have := ih _ _ _ h
    unfold World.freeze at this; split at this <;> exact this
  | frozen a k ih => intro w x w' h; simp only [Sem.run] at h; exact ih _ _ _ _ h
  | getObj r k ih =>
    intro w x w' h; simp only [Sem.run] at h
    split at h
    · cases h
    · exact ih _ _ _ _ h
    · cases h
  | setObj r o k ih =>
    intro w x w' h; simp only [Sem.run] at h
    split at h
    · cases h
    · have := ih _ _ _ h; exact this
    · cases h
  | choose q k ih =>
    intro w x w' h; simp only [Sem.run] at h
    split at h
    · exact ih _ _ _ _ h
    · have := ih _ _ _ _ h; exact Nat.le_trans (Nat.le_succ _) this
  | sys c k ih => intro w x w' h; simp only [Sem.run] at h; have := ih _ _ _ _ h; exact Nat.le_trans (World.sys_drawn w c) this
  | program k ih => intro w x w' h; simp only [Sem.run] at h; exact ih _ _ _ _ h
  | mark m k ih => intro w x w' h; simp only [Sem.run] at h; exact ih _ _ _ h
  | halt h0 => intro w x w' h; simp only [Sem.run] at h; cases h

/-- an operation that hands out values alone: what is drawn behind it is known not to have fallen -/
theorem wpIn_drawn {F : Fence} {n : Nat} {P : Program} {o : Oper} {a : Act} {w : World} {next : Act → World → Prop} {Q : Exit → Act → World → Prop}
    (hv : ∀ r w', (o.semAt F.round a.eval).run P w = .ok r w' → ∃ v, r = .value v) (h : o.wpIn F n P a w next Q) :
    o.wpIn F n P a w (fun a' w' => next a' w' ∧ w.drawn ≤ w'.drawn) Q := by
  refine ⟨h.1, ?_⟩
  have h2 := h.2
  cases hr : (o.semAt F.round a.eval).run P w with
  | ok r w' =>
    obtain ⟨v, rfl⟩ := hv _ _ hr
    rw [hr] at h2
    exact ⟨h2, Sem.run_drawn P _ _ _ _ hr⟩
  | halt e w' =>
    rw [hr] at h2
    cases e <;> exact h2
theorem run_value_only {P : Program} (s : Sem Value) (w : World) (r : Next) (w' : World) (h : (do pure (Next.value (← s)) : Sem Next).run P w = .ok r w') : ∃ v, r = .value v := by
  have e : (do pure (Next.value (← s)) : Sem Next) = s.bind fun v => .pure (.value v) := rfl
  rw [e] at h
  clear e
  induction s generalizing w with
  | pure a => simp only [Sem.bind, Sem.run] at h; injection h with h1 _; exact ⟨_, h1.symm⟩
  | load m a k ih =>
    simp only [Sem.bind, Sem.run] at h
    split at h
    · exact ih _ _ h
    · split at h
      · exact ih _ _ h
      · cases h
  | store m a v k ih =>
    by_cases h1 : ∃ cs, v = .agg cs
    · obtain ⟨cs, rfl⟩ := h1; simp only [Sem.bind, Sem.run] at h; cases h
    by_cases h2 : ∃ cs, v = .tuple cs
    · obtain ⟨cs, rfl⟩ := h2; simp only [Sem.bind, Sem.run] at h; cases h
    simp only [Sem.bind] at h
    have hm : ∀ (k : Sem Next), (∀ cs, v ≠ .agg cs) → (∀ cs, v ≠ .tuple cs) → (Sem.store m a v k).run P w = match w.cell? a with
      | some _ => if w.frozen? a then .halt (.unsupported (.unsafePointer "a write to bytes that a string shares")) w else k.run P (w.setCell a v)
      | none => match w.farStore P a v (m == .atomic) with
        | .ok (w, _) => k.run P w
        | .error h => .halt h w := by intro k h1 h2; cases v <;> first | rfl | exact absurd rfl (h1 _) | exact absurd rfl (h2 _)
    rw [hm _ (fun cs e => h1 ⟨cs, e⟩) (fun cs e => h2 ⟨cs, e⟩)] at h
    split at h
    · split at h
      · cases h
      · exact ih _ h
    · split at h
      · exact ih _ h
      · cases h
  | new o k ih => simp only [Sem.bind, Sem.run] at h; exact ih _ _ h
  | shape r k ih => simp only [Sem.bind, Sem.run] at h; exact ih _ _ h
  | freeze a n k ih => simp only [Sem.bind, Sem.run] at h; exact ih _ h
  | frozen a k ih => simp only [Sem.bind, Sem.run] at h; exact ih _ _ h
  | getObj r k ih =>
    simp only [Sem.bind, Sem.run] at h
    split at h
    · cases h
    · exact ih _ _ h
    · cases h
  | setObj r o k ih =>
    simp only [Sem.bind, Sem.run] at h
    split at h
    · cases h
    · exact ih _ h
    · cases h
  | choose q k ih =>
    simp only [Sem.bind, Sem.run] at h
    split at h
    · exact ih _ _ h
    · exact ih _ _ h
  | sys c k ih => simp only [Sem.bind, Sem.run] at h; exact ih _ _ h
  | program k ih => simp only [Sem.bind, Sem.run] at h; exact ih _ _ h
  | mark m k ih => simp only [Sem.bind, Sem.run] at h; exact ih _ h
  | halt h0 => simp only [Sem.bind, Sem.run] at h; cases h

/-- nothing but new blocks, and blocks of a set, has changed, and what is drawn has not fallen -/
structure MovesD (fp : Nat → Prop) (W W' : World) : Prop extends Moves fp W W' where
  drawn : W.drawn ≤ W'.drawn
theorem MovesD.refl (fp : Nat → Prop) (W : World) : MovesD fp W W := ⟨Moves.refl fp W, Nat.le_refl _⟩
theorem MovesD.trans {fp : Nat → Prop} {A B C : World} (h : MovesD fp A B) (k : MovesD fp B C) : MovesD fp A C := ⟨h.toMoves.trans k.toMoves, Nat.le_trans h.drawn k.drawn⟩
theorem MovesD.wider {fp fq : Nat → Prop} {A B : World} (h : MovesD fp A B) (hs : ∀ k, fp k → fq k) : MovesD fq A B := ⟨h.toMoves.wider hs, h.drawn⟩
theorem MovesD.alloc (fp : Nat → Prop) (W : World) (o : Obj) : MovesD fp W (W.alloc o) := ⟨Moves.alloc fp W o, Nat.le_refl _⟩
theorem MovesD.drew (fp : Nat → Prop) (W : World) : MovesD fp W W.drew := ⟨Moves.drew fp W, Nat.le_succ _⟩
theorem MovesD.drewN (fp : Nat → Prop) (W : World) (n : Nat) : MovesD fp W (W.drewN n) := ⟨⟨rfl, rfl, rfl, Nat.le_refl _, fun _ _ _ => rfl⟩, Nat.le_add_right _ _⟩
theorem MovesD.setCell {fp : Nat → Prop} (W : World) (a : Addr) (v : Value) (h : fp a.block) : MovesD fp W (W.setCell a v) := ⟨Moves.setCell W a v h, Nat.le_refl _⟩
theorem MovesD.putObj {fp : Nat → Prop} (W : World) (l : Nat) (o : Obj) (h : fp l) : MovesD fp W (W.putObj l o) := ⟨Moves.putObj W l o h, Nat.le_refl _⟩
/-- what abides the changes of a set of blocks -/
def StableD {β : Type} (fp : Nat → Prop) (J : β → World → Prop) : Prop := ∀ s A B, J s A → MovesD fp A B → J s B

/-- AN ITERATOR THAT HANDS OUT xs, one by one, and writes no block that there was but those of fp. -/
def SeqD {α : Type} (n : Nat) (P : Program) (g : Nat) (lb : Array Value) (encs : α → Array Value) (fp : Nat → Prop) (xs : List α) (w : World) : Prop :=
  ∀ (l : Nat) (J Jx : List α → World → Prop) (W : World), Below w.heap.size w W → StableD fp J → StableD fp Jx →
    (∀ pre x W1, J pre W1 → pre ++ [x] <+: xs → YieldAt Fence.wide (n - 1) P l (encs x) W1 fun e W' =>
      (e = .returned (.bool true) ∧ J (pre ++ [x]) W' ∧ Keeps fp W1 W') ∨ (e = .returned (.bool false) ∧ Jx (pre ++ [x]) W')) →
    J [] W →
    CallsIn Fence.wide n P g (#[.func (.yield l) #[] #[]] ++ lb) W fun e W' => (∃ v, e = .returned v) ∧ (J xs W' ∨ ∃ pre, pre <+: xs ∧ Jx pre W')

variable {n : Nat} {P : Program}
theorem wpIn_rangeD {α : Type} {g : Operand} {ps : Array Tmp} {assign body : Code} {Q : Exit → Act → World → Prop} {a : Act} {w : World}
    {gf : Nat} {lb : Array Value} (hg : a.eval g = .func (.func gf) #[] lb) (eg : ∀ args w, (callFunc gf args).run P w = .ok (.enter gf args) w)
    {encs : α → Array Value} {fp : Nat → Prop} {xs : List α} {w0 : World} (hseq : SeqD (n - 1) P gf lb encs fp xs w0) (hb0 : Below w0.heap.size w0 w) (hfp : ∀ k, fp k → k < w.heap.size) (hps : ∀ x, (encs x).size = ps.size)
    (I : List α → World → Prop) (Ix : Code → List α → World → Prop) (Ax : List α → α → Act → World → Prop)
    (hI : StableD (withLoop fp w.heap.size) I) (hIx : ∀ c, StableD (withLoop fp w.heap.size) (Ix c)) (hAx : ∀ pre x a, StableD (withLoop fp w.heap.size) (fun (_ : Unit) W => Ax pre x a W)) (h0 : I [] w)
    (hassign : ∀ (l : Nat) (pre : List α) (x : α) (W : World) (K : Act → World → Prop), pre ++ [x] <+: xs → w.heap.size + 2 ≤ W.heap.size → I pre W → (∀ a₁ W₁, Keeps (withLoop fp w.heap.size) W W₁ → Ax pre x a₁ W₁ → K a₁ W₁) →
      assign.wpIn (Fence.wide.inRound l) (n - 1 - 1) P (Exit.then K (fun _ _ _ => False)) { tmps := (ps.zip (encs x)).foldl (fun t (p, v) => t.setIfInBounds p v) a.tmps, defers := [] } W)
    (hbody : ∀ (l : Nat) (pre : List α) (x : α) (a₁ : Act) (W : World), pre ++ [x] <+: xs → w.heap.size + 2 ≤ W.heap.size → Ax pre x a₁ W → body.wpIn (Fence.wide.inRound l) (n - 1 - 1) P (postG (withLoop fp w.heap.size) I Ix (pre ++ [x]) W) a₁ W)
    (hdone : ∀ (W : World), I xs W → W.heap[w.heap.size]? = some (.deferred (some [])) → w.heap.size + 2 ≤ W.heap.size → Q .normal { a with defers := { target := .collected w.heap.size, args := #[] } :: a.defers } W)
    (hstop : ∀ (c : Code) (pre : List α) (W : World), pre <+: xs → Ix c pre W → W.heap[w.heap.size]? = some (.deferred (some [])) → w.heap.size + 2 ≤ W.heap.size → c.wpIn Fence.wide n P Q { a with defers := { target := .collected w.heap.size, args := #[] } :: a.defers } W) :
    (Code.rangeFunc g ps assign body).wpIn Fence.wide n P Q a w := by
  refine wpIn_rangeFunc ?_
  intro fn hfn
  obtain ⟨rec, hrec⟩ : ∃ rec : LoopState → Option Code → Loop, rec = fun st pe => { state := st, pending := pe, fn, tmps := a.tmps, params := ps, assign, body, defers := w.heap.size } := ⟨_, rfl⟩
  obtain ⟨W1, hW1⟩ : ∃ W1, (w.alloc (.deferred (some []))).alloc (.loop (rec .ready none)) = W1 := ⟨_, rfl⟩
  have hL1 : W1.heap[w.heap.size + 1]? = some (.loop (rec .ready none)) := by
    rw [← hW1]; have := World.alloc_heap_new (w.alloc (.deferred (some []))) (.loop (rec .ready none)); rwa [World.size_alloc] at this
  have hK1 : W1.heap[w.heap.size]? = some (.deferred (some [])) := by
    rw [← hW1]; exact (Below.heap_alloc _ _ _ (by simp)).trans (World.alloc_heap_new w _)
  have hI1 : I [] W1 := by rw [← hW1]; exact hI _ _ _ (hI _ _ _ h0 (MovesD.alloc _ _ _)) (MovesD.alloc _ _ _)
  have hz1 : w.heap.size + 2 ≤ W1.heap.size := by rw [← hW1]; simp
  have hb1 : Below w0.heap.size w0 W1 := by
    rw [← hW1]; exact hb0.trans ((((Below.refl _ w).alloc (Nat.le_refl _) _).alloc (by simp) _).mono hb0.size)
  have hfp0 : ¬ fp w.heap.size := fun h => Nat.lt_irrefl _ (hfp _ h)
  have hfp1 : ¬ fp (w.heap.size + 1) := fun h => Nat.not_succ_le_self _ (Nat.le_of_lt (hfp _ h))
  have mvl : ∀ (W : World) (o : Obj), MovesD (withLoop fp w.heap.size) W (W.putObj (w.heap.size + 1) o) := fun W o => MovesD.putObj W _ o (.inr (.inr rfl))
  refine ⟨w.heap.size + 1, [{ target := .collected w.heap.size, args := #[] }], W1, { target := .fn (.func gf) lb, args := #[.func (.yield (w.heap.size + 1)) #[] #[]] }, W1, gf,
    #[.func (.yield (w.heap.size + 1)) #[] #[]] ++ lb, W1, ?_, ?_, ?_, ?_, fun h => by simp [Fence.wide] at h, ?_⟩
  · rw [← hW1, hrec]; exact run_enterLoop_outer _ _ _ _ _
  · simp only [resolve, hg]
    simp [go_sem]
  · intro f' hf'; trivial
  · simp [invoke, go_sem, eg]
  · refine (hseq (w.heap.size + 1)
      (fun pre W => I pre W ∧ W.heap[w.heap.size + 1]? = some (.loop (rec .ready none)) ∧ W.heap[w.heap.size]? = some (.deferred (some [])) ∧ w.heap.size + 2 ≤ W.heap.size)
      (fun pre W => ∃ c, Ix c pre W ∧ W.heap[w.heap.size + 1]? = some (.loop (rec .done (some c))) ∧ W.heap[w.heap.size]? = some (.deferred (some [])) ∧ w.heap.size + 2 ≤ W.heap.size)
      W1 hb1
      (fun s A B hs hm => ⟨hI s A B hs.1 (hm.wider fun k h => .inl h), (hm.block _ (by omega) hfp1).trans hs.2.1, (hm.block _ (by omega) hfp0).trans hs.2.2.1, Nat.le_trans hs.2.2.2 hm.size⟩)
      (fun s A B hs hm => by
        obtain ⟨c, hc, hl, hk, hz⟩ := hs
        exact ⟨c, hIx c s A B hc (hm.wider fun k h => .inl h), (hm.block _ (by omega) hfp1).trans hl, (hm.block _ (by omega) hfp0).trans hk, Nat.le_trans hz hm.size⟩)
      ?_ ⟨hI1, hL1, hK1, hz1⟩).mono ?_
    · rintro pre x W ⟨hi, hl, hk, hz⟩ hpre
      have hy := run_yield (P := P) (args := encs x) hl (by rw [hrec]; simp [hps])
      rw [hrec] at hy
      refine ⟨fn, _, assign, body, hy, roundIn_of_wpIn hfn (hassign _ pre x W _ hpre hz hi ?_)⟩
      intro a₁ Wa hka hax
      have hl1 : Wa.heap[w.heap.size + 1]? = some (.loop (rec .ready none)) := (hka.block _ (by omega) (.inr (.inr rfl))).trans hl
      have hk1 : Wa.heap[w.heap.size]? = some (.deferred (some [])) := (hka.block _ (by omega) (.inr (.inl rfl))).trans hk
      have hlt : w.heap.size + 1 < Wa.heap.size := (Array.getElem?_eq_some_iff.1 hl1).1
      refine ⟨_, run_beginRound hl1 (by rw [hrec]), ?_⟩
      have hl2 : (Wa.putObj (w.heap.size + 1) (.loop { rec .ready none with state := .busy })).heap[w.heap.size + 1]? = some (.loop { rec .ready none with state := .busy }) := World.putObj_heap_same hlt
      have hk2 : (Wa.putObj (w.heap.size + 1) (.loop { rec .ready none with state := .busy })).heap[w.heap.size]? = some (.deferred (some [])) := (World.putObj_heap_other (by omega)).trans hk1
      have hax2 := hAx pre x a₁ () _ _ hax (mvl Wa (.loop { rec .ready none with state := .busy }))
      refine wpIn_mono (hbody _ pre x a₁ _ hpre (by rw [World.putObj_size]; omega) hax2) ?_
      have fin : ∀ (jump : Option Code) (W3 : World), Keeps (withLoop fp w.heap.size) (Wa.putObj (w.heap.size + 1) (.loop { rec .ready none with state := .busy })) W3 →
          (Instr.endRound (w.heap.size + 1) jump).run P W3 = .ok (.bool jump.isNone) (W3.putObj (w.heap.size + 1) (.loop (rec (if jump.isNone then .ready else .done) jump))) ∧
          (W3.putObj (w.heap.size + 1) (.loop (rec (if jump.isNone then .ready else .done) jump))).heap[w.heap.size + 1]? = some (.loop (rec (if jump.isNone then .ready else .done) jump)) ∧
          (W3.putObj (w.heap.size + 1) (.loop (rec (if jump.isNone then .ready else .done) jump))).heap[w.heap.size]? = some (.deferred (some [])) ∧
          w.heap.size + 2 ≤ (W3.putObj (w.heap.size + 1) (.loop (rec (if jump.isNone then .ready else .done) jump))).heap.size ∧
          Keeps fp W (W3.putObj (w.heap.size + 1) (.loop (rec (if jump.isNone then .ready else .done) jump))) := fun jump W3 hk3 => by
        have hsz := hk3.size
        rw [World.putObj_size] at hsz
        have hl3 := (hk3.block _ (by rw [World.putObj_size]; omega) (.inr (.inr rfl))).trans hl2
        have hk4 := (hk3.block _ (by rw [World.putObj_size]; omega) (.inr (.inl rfl))).trans hk2
        have := run_endRound (P := P) jump hl3
        rw [hrec] at this ⊢
        refine ⟨this, World.putObj_heap_same (Array.getElem?_eq_some_iff.1 hl3).1, (World.putObj_heap_other (by omega)).trans hk4, by rw [World.putObj_size]; omega, by have := hka.size; rw [World.putObj_size]; omega, fun k hk hf => ?_⟩
        have hne : k ≠ w.heap.size + 1 := fun e => hfp1 (e ▸ hf)
        have hka' := hka.size
        exact (World.putObj_heap_other hne).trans (((hk3.block k (by rw [World.putObj_size]; omega) (.inl hf)).trans (by rw [World.putObj_heap_other hne])).trans (hka.block k hk (.inl hf)))
      rintro e a3 W3 hp
      cases e with
      | normal =>
        obtain ⟨hk3, hi3⟩ := hp
        obtain ⟨hr, hl4, hk4, hz4, hk5⟩ := fin none W3 hk3
        exact ⟨_, _, hr, .inl ⟨rfl, ⟨hI _ _ _ hi3 (mvl _ _), hl4, hk4, hz4⟩, hk5⟩⟩
      | ret =>
        obtain ⟨hk3, hi3⟩ := hp
        obtain ⟨hr, hl4, hk4, hz4, hk5⟩ := fin (some .ret) W3 hk3
        exact ⟨_, _, hr, .inr ⟨rfl, .ret, hIx _ _ _ _ hi3 (mvl _ _), hl4, hk4, hz4⟩⟩
      | exit id =>
        obtain ⟨hk3, hi3⟩ := hp
        obtain ⟨hr, hl4, hk4, hz4, hk5⟩ := fin (some (.exit id)) W3 hk3
        exact ⟨_, _, hr, .inr ⟨rfl, .exit id, hIx _ _ _ _ hi3 (mvl _ _), hl4, hk4, hz4⟩⟩
      | goto t =>
        obtain ⟨hk3, hi3⟩ := hp
        obtain ⟨hr, hl4, hk4, hz4, hk5⟩ := fin (some (.goto t)) W3 hk3
        exact ⟨_, _, hr, .inr ⟨rfl, .goto t, hIx _ _ _ _ hi3 (mvl _ _), hl4, hk4, hz4⟩⟩
      | panic ch => exact hp.elim
      | outgrown => exact hp.elim
    · rintro e W2 ⟨⟨v, rfl⟩, (⟨hi, hl, hk, hz⟩ | ⟨pre, hpre, c, hi, hl, hk, hz⟩)⟩
      · exact ⟨none, _, by have := run_endLoop (P := P) hl (by rw [hrec]; simp); rw [hrec] at this; exact this, hdone _ (hI _ _ _ hi (mvl _ _)) ((World.putObj_heap_other (by omega)).trans hk) (by rw [World.putObj_size]; exact hz)⟩
      · exact ⟨some c, _, by have := run_endLoop (P := P) hl (by rw [hrec]; simp); rw [hrec] at this; exact this, hstop c pre _ hpre (hIx c _ _ _ hi (mvl _ _)) ((World.putObj_heap_other (by omega)).trans hk) (by rw [World.putObj_size]; exact hz)⟩
end Go
