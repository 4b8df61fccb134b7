/- Regions that draw their order, whose first n operations read or call what only makes memory, and whose others come one behind the other: one walk of the lexical order. No condition. -/
import Derived.StillTail
import Derived.Deep.Quiet
import Derived.Test.YtjplfkcelkijfaaGreatDoorWq
namespace Go.Proofs.YtjplfkcelkijfaaGreatDoor
open Go.RowKit

section
variable {P : Program} {ops : Array Oper} {md : Region.Mode} {C : World → Prop} {n : Nat}
/-- the first f picks all fall among the first n operations, each quiet in the class; then L -/
def Heads (P : Program) (md : Region.Mode) (ops : Array Oper) (C : World → Prop) (n : Nat) (L : Array Bool → Act → Prop) : Nat → Array Bool → Act → Prop
  | 0, b, a => L b a
  | f + 1, b, a => Region.ready md ops b ≠ [] ∧ ∀ i, i ∈ Region.ready md ops b → i < n ∧ qOp P ops C i (Heads P md ops C n L f (b.setIfInBounds i true)) a
theorem any_of_heads {g : Nat} {L : Array Bool → Act → Prop} {Q : Exit → Act → World → Prop} (hL : ∀ b a w, C w → L b a → wpAny P md ops Q g b a w) (f : Nat) : ∀ b a w, C w → Heads P md ops C n L f b a → wpAny P md ops Q (g + f) b a w := by
  induction f with
  | zero => exact hL
  | succ f ih =>
    intro b a w hw h
    show wpAny P md ops Q ((g + f) + 1) b a w
    exact ⟨fun e => absurd e h.1, fun i hi => wpOp_of_qOp hw (fun a' w' hw' => ih _ a' w' hw') (h.2 i hi).2⟩
/-- an operation that may come up now may be taken first -/
theorem heads_first {i : Nat} {o : Oper} {v : Value} {L : Array Bool → Act → Prop} (ho : ops[i]? = some o) (hsel : Region.noSelect ops = true)
    (hs : Region.sinkB md ops n = true) (hc : Region.chainB md ops n = true) (hn : n < ops.size) (hin : i < n) (hend : ∀ b a, L b a → ∀ j, j ∈ Region.ready md ops b → n ≤ j) (f : Nat) :
    ∀ b a, HeadInv md ops n b → (∀ j oj, ops[j]? = some oj → j ≠ i → b.getD j true = false → (∀ e ∈ oj.after, Region.binds md e = true → e.on ≠ i) → o.apart ops oj = true) →
      i ∈ Region.ready md ops b → YieldsIn P ops C o v a → Heads P md ops C n L f (b.setIfInBounds i true) (a.put o.dst v) → Heads P md ops C n L (f + 1) b a := by
  induction f with
  | zero =>
    intro b a inv _ hr hy H
    refine ⟨fun e => (by rw [e] at hr; cases hr), fun j hj => ?_⟩
    have hlt : j < n := Classical.byContradiction fun h => tail_waits hs hc hn inv _ i rfl hin (mem_ready.1 hr).1 j (by omega) hj
    refine ⟨hlt, ?_⟩
    rcases Decidable.em (j = i) with rfl | hne
    · exact hy.qOp ho H
    · have := hend _ _ H j (ready_mono hj hne)
      omega
  | succ f ih =>
    intro b a inv hfree hr hy H
    refine ⟨fun e => (by rw [e] at hr; cases hr), fun j hj => ?_⟩
    have hlt : j < n := Classical.byContradiction fun h => tail_waits hs hc hn inv _ i rfl hin (mem_ready.1 hr).1 j (by omega) hj
    refine ⟨hlt, ?_⟩
    rcases Decidable.em (j = i) with rfl | hne
    · exact hy.qOp ho H
    · obtain ⟨hjb, oj, hoj, hbefore⟩ := mem_ready.1 hj
      have hno : ∀ e ∈ oj.after, Region.binds md e = true → e.on ≠ i := fun e he hb heq => by
        have h1 := hbefore e he hb
        rw [heq, getD_both (mem_ready.1 hr).1] at h1
        cases h1
      have hq := qOp_put hoj (hfree j oj hoj hne hjb hno) (fun cs d => Region.noSelect_spec hsel i o cs d ho) (fun cs d => Region.noSelect_spec hsel j oj cs d hoj) hy (H.2 j (ready_mono hj hne)).2
      refine qOp_mono (fun a' h => ih (b.setIfInBounds j true) a' (inv.set hj hlt) (fun k ok hk hki hun hno' => hfree k ok hk hki ?_ hno') (ready_mono hr (Ne.symm hne)) h.1 ?_) hq
      · rcases Decidable.em (j = k) with rfl | hjk
        · exact hjb
        · rwa [getD_set_ne true hjk] at hun
      · rw [Array.setIfInBounds_comm _ _ hne]; exact h.2
theorem heads_lex {g : Nat} {Q : Act → Prop} (hsel : Region.noSelect ops = true) (hs : Region.sinkB md ops n = true) (hc : Region.chainB md ops n = true) (hn : n < ops.size) (l : List Oper) :
    ∀ k b a, (∀ j, j < l.length → l[j]? = ops[k + j]?) → k + l.length = n → HeadInv md ops n b → Region.lexHead md ops g l.length k b = true → wpQuiet P ops C Q l a →
      Heads P md ops C n (fun b' a' => Region.seqB md ops g n b' = true ∧ Q a') l.length b a := by
  induction l with
  | nil =>
    intro k b a _ hk _ hB h
    have e : k = n := by simpa using hk
    subst e
    exact ⟨hB, h⟩
  | cons o l ih =>
    intro k b a hl hk inv hB h
    have ho : ops[k]? = some o := by have := hl 0 (by simp); simpa using this.symm
    have hkn : k < n := by rw [List.length_cons] at hk; omega
    rw [List.length_cons, Region.lexHead, Bool.and_eq_true, Bool.and_eq_true] at hB
    obtain ⟨⟨hr, hf⟩, hB'⟩ := hB
    have hr' : k ∈ Region.ready md ops b := by simpa using hr
    have hq : qOp P ops C k (wpQuiet P ops C Q l) a := by unfold qOp; rw [ho]; exact h
    obtain ⟨v, hy, hK⟩ := yieldsIn_of_qOp ho hq
    refine heads_first ho hsel hs hc hn hkn (fun b' a' hL => seqB_ready hL.1) l.length b a inv (Region.free_spec ho hf) hr' hy (ih (k + 1) _ _ (fun j hj => ?_) (by rw [List.length_cons] at hk; omega) (inv.set hr' hkn) hB' hK)
    have := hl (j + 1) (by simp; omega)
    rw [List.getElem?_cons_succ] at this
    rw [this, Nat.add_assoc, Nat.add_comm 1 j]
end
/-- the first n operations in the lexical order, whatever is made; then the others, one behind the other -/
theorem wp_region_tail {id : Nat} {Q : Exit → Act → World → Prop} {a : Act} {w : World} {l : List Oper} (n : Nat) (hB : Region.lexTailB .any l.toArray n = true)
    (h : wpQuiet Tryz.prog l.toArray (Below w.heap.size w) (fun a' => ∀ w', Below w.heap.size w w' → wpList Tryz.prog l.toArray Q (l.drop n) a' w') (l.take n) a) : (Code.region id l.toArray true).wp Tryz.prog Q a w := by
  rw [Region.lexTailB] at hB
  simp only [Bool.and_eq_true, decide_eq_true_eq] at hB
  obtain ⟨⟨⟨⟨hsel, hn⟩, hs⟩, hc⟩, hlex⟩ := hB
  have hnl : n < l.length := by simpa using hn
  have ht : (l.take n).length = n := by rw [List.length_take]; omega
  have hd : (l.drop n).length = l.toArray.size - n := by simp
  have inv : HeadInv .any l.toArray n (Array.replicate l.toArray.size false) :=
    ⟨by simp, fun j oj _ hl => (by rw [getD_replicate_false] at hl; cases hl), fun t _ hlt => getD_in (by simpa using hlt) (getD_replicate_false _ _)⟩
  have H := heads_lex (P := Tryz.prog) (C := Below w.heap.size w) (md := .any) (g := l.toArray.size - n) hsel hs hc hn (l.take n) 0 _ a (fun j hj => by
    rw [ht] at hj
    simp [hj]) (by rw [Nat.zero_add]; exact ht) inv (by rw [ht]; exact hlex) h
  have HH := any_of_heads (Q := Q) (g := l.toArray.size - n) (fun b a' w' hw hL => by
    have := wpAny_of_seq (md := .any) (Q' := Q) (l.drop n) n b a' w' (fun j => by rw [List.getElem?_drop]; simp) (by rw [hd]; exact hL.1) (hL.2 w' hw)
    rwa [hd] at this) _ _ _ w.drew ((Below.refl w.heap.size w).drew) H
  rw [ht, show l.toArray.size - n + n = l.toArray.size by omega] at HH
  exact wp_region_any (by kernel_rfl) HH
end Go.Proofs.YtjplfkcelkijfaaGreatDoor
