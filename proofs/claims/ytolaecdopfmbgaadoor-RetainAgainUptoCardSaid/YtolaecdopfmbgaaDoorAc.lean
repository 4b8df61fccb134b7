/- A range over a function whose iterator keeps its own captured cells: one law, for any program. -/
import Derived.RangeFuncNested
import Derived.RangeFuncBound
import Derived.RangeFuncCalls
import Derived.RangeFuncLeaves
namespace Go
open Go.RowKit

/-- nothing but new blocks, and blocks of a set, has changed -/
structure Moves (fp : Nat → Prop) (W W' : World) : Prop where
  os : W'.os = W.os
  tape : W'.tape = W.tape
  output : W'.output = W.output
  size : W.heap.size ≤ W'.heap.size
  block : ∀ k, k < W.heap.size → ¬ fp k → W'.heap[k]? = W.heap[k]?
/-- the blocks of a set are as they were -/
structure Keeps (fp : Nat → Prop) (W W' : World) : Prop where
  size : W.heap.size ≤ W'.heap.size
  block : ∀ k, k < W.heap.size → fp k → W'.heap[k]? = W.heap[k]?

theorem Moves.refl (fp : Nat → Prop) (W : World) : Moves fp W W := ⟨rfl, rfl, rfl, Nat.le_refl _, fun _ _ _ => rfl⟩
theorem Moves.trans {fp : Nat → Prop} {A B C : World} (h : Moves fp A B) (k : Moves fp B C) : Moves fp A C :=
  ⟨k.os.trans h.os, k.tape.trans h.tape, k.output.trans h.output, Nat.le_trans h.size k.size, fun i hi hf => (k.block i (Nat.lt_of_lt_of_le hi h.size) hf).trans (h.block i hi hf)⟩
theorem Moves.wider {fp fq : Nat → Prop} {A B : World} (h : Moves fp A B) (hs : ∀ k, fp k → fq k) : Moves fq A B :=
  ⟨h.os, h.tape, h.output, h.size, fun i hi hf => h.block i hi fun e => hf (hs i e)⟩
theorem Moves.alloc (fp : Nat → Prop) (W : World) (o : Obj) : Moves fp W (W.alloc o) := ⟨rfl, rfl, rfl, by simp, fun k hk _ => Below.heap_alloc W o k hk⟩
theorem Moves.drew (fp : Nat → Prop) (W : World) : Moves fp W W.drew := ⟨rfl, rfl, rfl, Nat.le_refl _, fun _ _ _ => rfl⟩
theorem Moves.setCell {fp : Nat → Prop} (W : World) (a : Addr) (v : Value) (h : fp a.block) : Moves fp W (W.setCell a v) :=
  ⟨rfl, rfl, rfl, by simp, fun k _ hf => Below.heap_setCell W a v k fun e => hf (e ▸ h)⟩
theorem Moves.putObj {fp : Nat → Prop} (W : World) (l : Nat) (o : Obj) (h : fp l) : Moves fp W (W.putObj l o) :=
  ⟨rfl, rfl, rfl, by simp, fun k _ hf => World.putObj_heap_other fun e => hf (e ▸ h)⟩
theorem Moves.of_below {fp : Nat → Prop} {W W' : World} (h : Below W.heap.size W W') : Moves fp W W' := ⟨h.os, h.tape, h.output, h.size, fun k hk _ => h.block k hk⟩
theorem Moves.below {fp : Nat → Prop} {W W' : World} {B : Nat} (h : Moves fp W W') (hB : B ≤ W.heap.size) (hf : ∀ k, fp k → B ≤ k) : Below B W W' :=
  ⟨h.os, h.tape, h.output, h.size, fun k hk => h.block k (Nat.lt_of_lt_of_le hk hB) fun e => Nat.not_lt.2 (hf k e) hk⟩
theorem Moves.of_grown {fp : Nat → Prop} {W W' : World} {row : Option Nat} (h : W.grownBy W' row) (hr : ∀ k, row = some k → fp k) : Moves fp W W' :=
  ⟨h.os, h.tape, h.output, h.size, fun k hk hf => h.block k hk fun e => hf (hr k e.symm)⟩
theorem Keeps.refl (fp : Nat → Prop) (W : World) : Keeps fp W W := ⟨Nat.le_refl _, fun _ _ _ => rfl⟩
theorem Keeps.trans {fp : Nat → Prop} {A B C : World} (h : Keeps fp A B) (k : Keeps fp B C) : Keeps fp A C :=
  ⟨Nat.le_trans h.size k.size, fun i hi hf => (k.block i (Nat.lt_of_lt_of_le hi h.size) hf).trans (h.block i hi hf)⟩
theorem Keeps.of_moves {fp fq : Nat → Prop} {A B : World} (h : Moves fp A B) (hs : ∀ k, fq k → ¬ fp k) : Keeps fq A B := ⟨h.size, fun k hk hf => h.block k hk (hs k hf)⟩
theorem Keeps.alloc (fp : Nat → Prop) (W : World) (o : Obj) : Keeps fp W (W.alloc o) := ⟨by simp, fun k hk _ => Below.heap_alloc W o k hk⟩
theorem Keeps.setCell {fp : Nat → Prop} (W : World) (a : Addr) (v : Value) (h : ¬ fp a.block) : Keeps fp W (W.setCell a v) :=
  ⟨by simp, fun k _ hf => Below.heap_setCell W a v k fun e => h (e ▸ hf)⟩
theorem Keeps.drew (fp : Nat → Prop) (W : World) : Keeps fp W W.drew := ⟨Nat.le_refl _, fun _ _ _ => rfl⟩
theorem Keeps.of_below {fp : Nat → Prop} {W W' : World} (h : Below W.heap.size W W') : Keeps fp W W' := ⟨h.size, fun k hk _ => h.block k hk⟩
theorem Keeps.of_grown {fp : Nat → Prop} {W W' : World} {row : Option Nat} (h : W.grownBy W' row) (hr : ∀ k, row = some k → ¬ fp k) : Keeps fp W W' :=
  ⟨h.size, fun k hk hf => h.block k hk fun e => hr k e.symm hf⟩

/-- what abides the changes of a set of blocks -/
def Stable {β : Type} (fp : Nat → Prop) (J : β → World → Prop) : Prop := ∀ s A B, J s A → Moves fp A B → J s B

/-- AN ITERATOR THAT HANDS OUT xs, one by one, and writes no block that there was but those of fp. -/
def SeqG {α : Type} (n : Nat) (P : Program) (g : Nat) (lb : Array Value) (encs : α → Array Value) (fp : Nat → Prop) (xs : List α) (w : World) : Prop :=
  ∀ (l : Nat) (J Jx : List α → World → Prop) (W : World), Below w.heap.size w W → Stable fp J → Stable fp Jx →
    (∀ pre x W1, J pre W1 → pre ++ [x] <+: xs → YieldAt Fence.wide (n - 1) P l (encs x) W1 fun e W' =>
      (e = .returned (.bool true) ∧ J (pre ++ [x]) W' ∧ Keeps fp W1 W') ∨ (e = .returned (.bool false) ∧ Jx (pre ++ [x]) W')) →
    J [] W →
    CallsIn Fence.wide n P g (#[.func (.yield l) #[] #[]] ++ lb) W fun e W' => (∃ v, e = .returned v) ∧ (J xs W' ∨ ∃ pre, pre <+: xs ∧ Jx pre W')

/-- HOW THE BODY OF A ROUND MAY BE LEFT. -/
def postG {α : Type} (fp : Nat → Prop) (I : List α → World → Prop) (Ix : Code → List α → World → Prop) (xs : List α) (W : World) : Exit → Act → World → Prop
  | .normal, _, W' => Keeps fp W W' ∧ I xs W'
  | .ret, _, W' => Keeps fp W W' ∧ Ix .ret xs W'
  | .exit id, _, W' => Keeps fp W W' ∧ Ix (.exit id) xs W'
  | .goto t, _, W' => Keeps fp W W' ∧ Ix (.goto t) xs W'
  | .panic _, _, _ => False
  | .outgrown, _, _ => False

/-- the blocks that the loop's statement owns beside the iterator's: the rounds' deferred calls, and the record -/
def withLoop (fp : Nat → Prop) (B : Nat) : Nat → Prop := fun k => fp k ∨ k = B ∨ k = B + 1

theorem noDepth {n : Nat} : Fence.wide.depth.isSome = true → 1 ≤ n := fun h => by simp [Fence.wide] at h
theorem noDepthR {n l : Nat} : (Fence.wide.inRound l).depth.isSome = true → 1 ≤ n := fun h => by simp [Fence.wide] at h
variable {n : Nat} {P : Program}
theorem wpIn_rangeG {α : Type} {g : Operand} {ps : Array Tmp} {assign body : Code} {Q : Exit → Act → World → Prop} {a : Act} {w : World}
    {gf : Nat} {lb : Array Value} (hg : a.eval g = .func (.func gf) #[] lb) (eg : ∀ args w, (callFunc gf args).run P w = .ok (.enter gf args) w)
    {encs : α → Array Value} {fp : Nat → Prop} {xs : List α} {w0 : World} (hseq : SeqG (n - 1) P gf lb encs fp xs w0) (hb0 : Below w0.heap.size w0 w) (hfp : ∀ k, fp k → k < w.heap.size) (hps : ∀ x, (encs x).size = ps.size)
    (I : List α → World → Prop) (Ix : Code → List α → World → Prop) (Ax : List α → α → Act → World → Prop)
    (hI : Stable (withLoop fp w.heap.size) I) (hIx : ∀ c, Stable (withLoop fp w.heap.size) (Ix c)) (hAx : ∀ pre x a, Stable (withLoop fp w.heap.size) (fun (_ : Unit) W => Ax pre x a W)) (h0 : I [] w)
    (hassign : ∀ (l : Nat) (pre : List α) (x : α) (W : World) (K : Act → World → Prop), pre ++ [x] <+: xs → w.heap.size + 2 ≤ W.heap.size → I pre W → (∀ a₁ W₁, Keeps (withLoop fp w.heap.size) W W₁ → Ax pre x a₁ W₁ → K a₁ W₁) →
      assign.wpIn (Fence.wide.inRound l) (n - 1 - 1) P (Exit.then K (fun _ _ _ => False)) { tmps := (ps.zip (encs x)).foldl (fun t (p, v) => t.setIfInBounds p v) a.tmps, defers := [] } W)
    (hbody : ∀ (l : Nat) (pre : List α) (x : α) (a₁ : Act) (W : World), pre ++ [x] <+: xs → w.heap.size + 2 ≤ W.heap.size → Ax pre x a₁ W → body.wpIn (Fence.wide.inRound l) (n - 1 - 1) P (postG (withLoop fp w.heap.size) I Ix (pre ++ [x]) W) a₁ W)
    (hdone : ∀ (W : World), I xs W → W.heap[w.heap.size]? = some (.deferred (some [])) → w.heap.size + 2 ≤ W.heap.size → Q .normal { a with defers := { target := .collected w.heap.size, args := #[] } :: a.defers } W)
    (hstop : ∀ (c : Code) (pre : List α) (W : World), pre <+: xs → Ix c pre W → W.heap[w.heap.size]? = some (.deferred (some [])) → w.heap.size + 2 ≤ W.heap.size → c.wpIn Fence.wide n P Q { a with defers := { target := .collected w.heap.size, args := #[] } :: a.defers } W) :
    (Code.rangeFunc g ps assign body).wpIn Fence.wide n P Q a w := by
  refine wpIn_rangeFunc ?_
  intro fn hfn
  obtain ⟨rec, hrec⟩ : ∃ rec : LoopState → Option Code → Loop, rec = fun st pe => { state := st, pending := pe, fn, tmps := a.tmps, params := ps, assign, body, defers := w.heap.size } := ⟨_, rfl⟩
  obtain ⟨W1, hW1⟩ : ∃ W1, (w.alloc (.deferred (some []))).alloc (.loop (rec .ready none)) = W1 := ⟨_, rfl⟩
  have hL1 : W1.heap[w.heap.size + 1]? = some (.loop (rec .ready none)) := by
    rw [← hW1]; have := World.alloc_heap_new (w.alloc (.deferred (some []))) (.loop (rec .ready none)); rwa [World.size_alloc] at this
  have hK1 : W1.heap[w.heap.size]? = some (.deferred (some [])) := by
    rw [← hW1]; exact (Below.heap_alloc _ _ _ (by simp)).trans (World.alloc_heap_new w _)
  have hI1 : I [] W1 := by rw [← hW1]; exact hI _ _ _ (hI _ _ _ h0 (Moves.alloc _ _ _)) (Moves.alloc _ _ _)
  have hz1 : w.heap.size + 2 ≤ W1.heap.size := by rw [← hW1]; simp
  have hb1 : Below w0.heap.size w0 W1 := by
    rw [← hW1]; exact hb0.trans ((((Below.refl _ w).alloc (Nat.le_refl _) _).alloc (by simp) _).mono hb0.size)
  have hfp0 : ¬ fp w.heap.size := fun h => Nat.lt_irrefl _ (hfp _ h)
  have hfp1 : ¬ fp (w.heap.size + 1) := fun h => Nat.not_succ_le_self _ (Nat.le_of_lt (hfp _ h))
  have mvl : ∀ (W : World) (o : Obj), Moves (withLoop fp w.heap.size) W (W.putObj (w.heap.size + 1) o) := fun W o => Moves.putObj W _ o (.inr (.inr rfl))
  refine ⟨w.heap.size + 1, [{ target := .collected w.heap.size, args := #[] }], W1, { target := .fn (.func gf) lb, args := #[.func (.yield (w.heap.size + 1)) #[] #[]] }, W1, gf,
    #[.func (.yield (w.heap.size + 1)) #[] #[]] ++ lb, W1, ?_, ?_, ?_, ?_, fun h => by simp [Fence.wide] at h, ?_⟩
  · rw [← hW1, hrec]; exact run_enterLoop_outer _ _ _ _ _
  · simp only [resolve, hg]
    simp [go_sem]
  · intro f' hf'; trivial
  · simp [invoke, go_sem, eg]
  · refine (hseq (w.heap.size + 1)
      (fun pre W => I pre W ∧ W.heap[w.heap.size + 1]? = some (.loop (rec .ready none)) ∧ W.heap[w.heap.size]? = some (.deferred (some [])) ∧ w.heap.size + 2 ≤ W.heap.size)
      (fun pre W => ∃ c, Ix c pre W ∧ W.heap[w.heap.size + 1]? = some (.loop (rec .done (some c))) ∧ W.heap[w.heap.size]? = some (.deferred (some [])) ∧ w.heap.size + 2 ≤ W.heap.size)
      W1 hb1
      (fun s A B hs hm => ⟨hI s A B hs.1 (hm.wider fun k h => .inl h), (hm.block _ (by omega) hfp1).trans hs.2.1, (hm.block _ (by omega) hfp0).trans hs.2.2.1, Nat.le_trans hs.2.2.2 hm.size⟩)
      (fun s A B hs hm => by
        obtain ⟨c, hc, hl, hk, hz⟩ := hs
        exact ⟨c, hIx c s A B hc (hm.wider fun k h => .inl h), (hm.block _ (by omega) hfp1).trans hl, (hm.block _ (by omega) hfp0).trans hk, Nat.le_trans hz hm.size⟩)
      ?_ ⟨hI1, hL1, hK1, hz1⟩).mono ?_
    · rintro pre x W ⟨hi, hl, hk, hz⟩ hpre
      have hy := run_yield (P := P) (args := encs x) hl (by rw [hrec]; simp [hps])
      rw [hrec] at hy
      refine ⟨fn, _, assign, body, hy, roundIn_of_wpIn hfn (hassign _ pre x W _ hpre hz hi ?_)⟩
      intro a₁ Wa hka hax
      have hl1 : Wa.heap[w.heap.size + 1]? = some (.loop (rec .ready none)) := (hka.block _ (by omega) (.inr (.inr rfl))).trans hl
      have hk1 : Wa.heap[w.heap.size]? = some (.deferred (some [])) := (hka.block _ (by omega) (.inr (.inl rfl))).trans hk
      have hlt : w.heap.size + 1 < Wa.heap.size := (Array.getElem?_eq_some_iff.1 hl1).1
      refine ⟨_, run_beginRound hl1 (by rw [hrec]), ?_⟩
      have hl2 : (Wa.putObj (w.heap.size + 1) (.loop { rec .ready none with state := .busy })).heap[w.heap.size + 1]? = some (.loop { rec .ready none with state := .busy }) := World.putObj_heap_same hlt
      have hk2 : (Wa.putObj (w.heap.size + 1) (.loop { rec .ready none with state := .busy })).heap[w.heap.size]? = some (.deferred (some [])) := (World.putObj_heap_other (by omega)).trans hk1
      have hax2 := hAx pre x a₁ () _ _ hax (mvl Wa (.loop { rec .ready none with state := .busy }))
      refine wpIn_mono (hbody _ pre x a₁ _ hpre (by rw [World.putObj_size]; omega) hax2) ?_
      have fin : ∀ (jump : Option Code) (W3 : World), Keeps (withLoop fp w.heap.size) (Wa.putObj (w.heap.size + 1) (.loop { rec .ready none with state := .busy })) W3 →
          (Instr.endRound (w.heap.size + 1) jump).run P W3 = .ok (.bool jump.isNone) (W3.putObj (w.heap.size + 1) (.loop (rec (if jump.isNone then .ready else .done) jump))) ∧
          (W3.putObj (w.heap.size + 1) (.loop (rec (if jump.isNone then .ready else .done) jump))).heap[w.heap.size + 1]? = some (.loop (rec (if jump.isNone then .ready else .done) jump)) ∧
          (W3.putObj (w.heap.size + 1) (.loop (rec (if jump.isNone then .ready else .done) jump))).heap[w.heap.size]? = some (.deferred (some [])) ∧
          w.heap.size + 2 ≤ (W3.putObj (w.heap.size + 1) (.loop (rec (if jump.isNone then .ready else .done) jump))).heap.size ∧
          Keeps fp W (W3.putObj (w.heap.size + 1) (.loop (rec (if jump.isNone then .ready else .done) jump))) := fun jump W3 hk3 => by
        have hsz := hk3.size
        rw [World.putObj_size] at hsz
        have hl3 := (hk3.block _ (by rw [World.putObj_size]; omega) (.inr (.inr rfl))).trans hl2
        have hk4 := (hk3.block _ (by rw [World.putObj_size]; omega) (.inr (.inl rfl))).trans hk2
        have := run_endRound (P := P) jump hl3
        rw [hrec] at this ⊢
        refine ⟨this, World.putObj_heap_same (Array.getElem?_eq_some_iff.1 hl3).1, (World.putObj_heap_other (by omega)).trans hk4, by rw [World.putObj_size]; omega, by have := hka.size; rw [World.putObj_size]; omega, fun k hk hf => ?_⟩
        have hne : k ≠ w.heap.size + 1 := fun e => hfp1 (e ▸ hf)
        have hka' := hka.size
        exact (World.putObj_heap_other hne).trans (((hk3.block k (by rw [World.putObj_size]; omega) (.inl hf)).trans (by rw [World.putObj_heap_other hne])).trans (hka.block k hk (.inl hf)))
      rintro e a3 W3 hp
      cases e with
      | normal =>
        obtain ⟨hk3, hi3⟩ := hp
        obtain ⟨hr, hl4, hk4, hz4, hk5⟩ := fin none W3 hk3
        exact ⟨_, _, hr, .inl ⟨rfl, ⟨hI _ _ _ hi3 (mvl _ _), hl4, hk4, hz4⟩, hk5⟩⟩
      | ret =>
        obtain ⟨hk3, hi3⟩ := hp
        obtain ⟨hr, hl4, hk4, hz4, hk5⟩ := fin (some .ret) W3 hk3
        exact ⟨_, _, hr, .inr ⟨rfl, .ret, hIx _ _ _ _ hi3 (mvl _ _), hl4, hk4, hz4⟩⟩
      | exit id =>
        obtain ⟨hk3, hi3⟩ := hp
        obtain ⟨hr, hl4, hk4, hz4, hk5⟩ := fin (some (.exit id)) W3 hk3
        exact ⟨_, _, hr, .inr ⟨rfl, .exit id, hIx _ _ _ _ hi3 (mvl _ _), hl4, hk4, hz4⟩⟩
      | goto t =>
        obtain ⟨hk3, hi3⟩ := hp
        obtain ⟨hr, hl4, hk4, hz4, hk5⟩ := fin (some (.goto t)) W3 hk3
        exact ⟨_, _, hr, .inr ⟨rfl, .goto t, hIx _ _ _ _ hi3 (mvl _ _), hl4, hk4, hz4⟩⟩
      | panic ch => exact hp.elim
      | outgrown => exact hp.elim
    · rintro e W2 ⟨⟨v, rfl⟩, (⟨hi, hl, hk, hz⟩ | ⟨pre, hpre, c, hi, hl, hk, hz⟩)⟩
      · exact ⟨none, _, by have := run_endLoop (P := P) hl (by rw [hrec]; simp); rw [hrec] at this; exact this, hdone _ (hI _ _ _ hi (mvl _ _)) ((World.putObj_heap_other (by omega)).trans hk) (by rw [World.putObj_size]; exact hz)⟩
      · exact ⟨some c, _, by have := run_endLoop (P := P) hl (by rw [hrec]; simp); rw [hrec] at this; exact this, hstop c pre _ hpre (hIx c _ _ _ hi (mvl _ _)) ((World.putObj_heap_other (by omega)).trans hk) (by rw [World.putObj_size]; exact hz)⟩
/-- a return behind one loop over a function -/
theorem postM_ret {F : Fence} {fn : Func} {R : Ending → World → Prop} {a : Act} {W : World} {D : Nat} {v : Value} (hd : a.defers = [{ target := .collected D, args := #[] }]) (hD : W.heap[D]? = some (.deferred (some [])))
    (hr : (results fn a.tmps).run P (W.putObj D (.deferred none)) = .ok v (W.putObj D (.deferred none))) (hR : R (.returned v) (W.putObj D (.deferred none))) : bodyPostM F n P fn R .ret a W := by
  show LeavesInM F n P fn a.tmps R a.defers .returning W
  rw [hd]
  exact ⟨by simp, .inl ⟨_, _, rfl, run_takeDeferred hD, ⟨_, hr, hR⟩⟩⟩
theorem below_putObj {B : Nat} {a w : World} (h : Below B a w) {g : Nat} (hg : B ≤ g) (o : Obj) : Below B a (w.putObj g o) :=
  h.trans ⟨rfl, rfl, rfl, by simp, fun k hk => World.putObj_heap_other (by omega)⟩
end Go
