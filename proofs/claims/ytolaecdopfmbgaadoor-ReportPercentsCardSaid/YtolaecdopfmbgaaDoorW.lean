/- Plain laws of texts: which references any text has; there and back. No condition. -/
import Derived.Test.YtolaecdopfmbgaaDoorV
import Derived.Test.YtolaecdopfmbgaaDoorG
namespace Go.Proofs.YtolaecdopfmbgaaDoor
open Go.RowKit

/-- a text's lines; whether each ends with a byte 10 -/
def linesL (l : List UInt8) : List (List UInt8 × Bool) :=
  ((Lib.cut l [10]).1, (Lib.cut l [10]).2.2) :: if h : (Lib.cut l [10]).2.1 = [] then [] else linesL (Lib.cut l [10]).2.1
termination_by l.length
decreasing_by
  rcases cut_ways 10 l with ⟨a, r, rfl, hno⟩ | hno
  · rw [cut_hit hno]; simp; omega
  · rw [cut_miss hno] at h; exact absurd rfl h
/-- the lines of what is left -/
def linesR (l : List UInt8) : List (List UInt8 × Bool) := if l = [] then [] else linesL l
theorem linesL_hit {a r : List UInt8} (h : ∀ x ∈ a, x ≠ 10) : linesL (a ++ 10 :: r) = (a, true) :: linesR r := by
  rw [linesL, cut_hit h]; rfl
theorem linesR_hit {a r : List UInt8} (h : ∀ x ∈ a, x ≠ 10) : linesR (a ++ 10 :: r) = (a, true) :: linesR r := by
  unfold linesR
  rw [if_neg (by simp), linesL_hit h]; rfl
theorem linesL_miss {a : List UInt8} (h : ∀ x ∈ a, x ≠ 10) : linesL a = [(a, false)] := by
  rw [linesL, cut_miss h]; rfl
theorem linesL_step (l : List UInt8) : linesL l = ((Lib.cut l [10]).1, (Lib.cut l [10]).2.2) :: linesR (Lib.cut l [10]).2.1 := by
  rw [linesL]; rfl

def firstL : List UInt8 := [115, 116, 105, 108, 108, 97, 103, 101, 32, 49]
theorem firstL_no : ∀ x ∈ firstL, x ≠ 10 := by decide
/-- the references of lines behind the first one -/
def readG : List Rf → List (List UInt8 × Bool) → List Rf × Nat
  | out, [] => (out, 0)
  | out, (l, e) :: ls => if e = false then ([], 3) else match refS l with
    | none => ([], 3)
    | some r => if 64 ≤ out.length then ([], 8) else if hasD out r.d then ([], 7) else readG (out ++ [r]) ls
def readS : List (List UInt8 × Bool) → List Rf × Nat
  | [] => ([], 3)
  | (l, e) :: ls => if e = true ∧ l = firstL then readG [] ls else ([], 3)
/-- what any text has -/
def readL (b : List UInt8) : List Rf × Nat := readS (linesL b)

theorem readG_bad {out : List Rf} {l : List UInt8} {ls : List (List UInt8 × Bool)} {e : Bool} (h : e = false ∨ refS l = none) : readG out ((l, e) :: ls) = ([], 3) := by
  unfold readG
  rcases h with rfl | h
  · rw [if_pos rfl]
  · split
    · rfl
    · rw [h]
theorem readG_some {out : List Rf} {l : List UInt8} {ls : List (List UInt8 × Bool)} {r : Rf} (h : refS l = some r) :
    readG out ((l, true) :: ls) = if 64 ≤ out.length then ([], 8) else if hasD out r.d then ([], 7) else readG (out ++ [r]) ls := by
  rw [readG, if_neg (by simp), h]

/-- what was read lies in lines, and nothing is wrong with it -/
theorem readG_back : ∀ (ls : List (List UInt8 × Bool)) (out m : List Rf), readG out ls = (m, 0) → ∃ t, m = out ++ t ∧ ls = t.map (fun r => (lineL r, true)) ∧ errFrom out t = 0 ∧ (out.length ≤ 64 → m.length ≤ 64) ∧ ∀ r ∈ t, goodR r
  | [], out, m, h => by
    unfold readG at h
    cases h
    exact ⟨[], by simp, rfl, rfl, id, fun r hr => by cases hr⟩
  | (l, e) :: ls, out, m, h => by
    unfold readG at h
    split at h
    · cases h
    · rename_i he
      split at h
      · cases h
      · rename_i r hr
        split at h
        · cases h
        · rename_i h64
          split at h
          · cases h
          · rename_i hd
            obtain ⟨hg, hl⟩ := line_refS hr
            obtain ⟨t, rfl, rfl, h3, h4, h5⟩ := readG_back ls _ m h
            refine ⟨r :: t, by simp, ?_, ?_, fun ho => h4 (by simp; omega), ?_⟩
            · rw [List.map_cons, hl]
              have : e = true := by simpa using he
              rw [this]
            · unfold errFrom
              rw [if_neg ?_, if_neg hd, h3]
              unfold badR
              cases hm : r.m
              · have := hg.2.2 hm
                simp; omega
              · simp
            · intro x hx
              rcases List.mem_cons.1 hx with rfl | hx
              · exact hg
              · exact h5 x hx
theorem lineL_no {r : Rf} (h : r.m = true ∨ 0 ≤ r.n) : ∀ x ∈ lineL r, x ≠ 10 := by
  obtain ⟨m, d, n⟩ := r
  have hdg : ∀ x ∈ digT d, x ≠ 10 := fun x hx e => by have := digT_ge hx; rw [e] at this; simp at this
  cases m with
  | true =>
    rw [lineM]
    intro x hx
    rcases List.mem_append.1 hx with hx | hx
    · exact (by decide : ∀ y ∈ manP, y ≠ 10) x hx
    · exact hdg x hx
  | false =>
    have h0 : 0 ≤ n := by rcases h with h | h; (cases h); exact h
    rw [lineB]
    intro x hx
    rcases List.mem_append.1 hx with hx | hx
    · exact (by decide : ∀ y ∈ blobP, y ≠ 10) x hx
    · rcases List.mem_append.1 hx with hx | hx
      · exact hdg x hx
      · rcases List.mem_cons.1 hx with rfl | hx
        · decide
        · intro e
          have := itoa_ge h0 hx
          rw [e] at this; simp at this
def goodN (r : Rf) : Prop := r.m = true ∨ 0 ≤ r.n
theorem goodR.n {r : Rf} (h : goodR r) : goodN r := by
  cases hm : r.m
  · exact .inr (h.2.2 hm).1
  · exact .inl hm
def tailL (L : List Rf) : List UInt8 := L.flatMap fun r => lineL r ++ [10]
theorem tailL_cons (r : Rf) (L : List Rf) : tailL (r :: L) = lineL r ++ 10 :: tailL L := by
  unfold tailL; rw [List.flatMap_cons, List.append_assoc]; rfl
theorem bodyL_eq (L : List Rf) : bodyL L = firstL ++ 10 :: tailL L := rfl
theorem linesR_tail : ∀ {L : List Rf}, (∀ r ∈ L, goodN r) → linesR (tailL L) = L.map fun r => (lineL r, true)
  | [], _ => rfl
  | r :: L, h => by
    rw [tailL_cons, linesR_hit (lineL_no (h r (List.mem_cons_self ..))), linesR_tail fun x hx => h x (List.mem_cons_of_mem _ hx)]; rfl
/-- lines tell their text -/
theorem tail_of : ∀ (n : Nat) (b : List UInt8) (L : List Rf), b.length ≤ n → linesR b = L.map (fun r => (lineL r, true)) → b = tailL L
  | n, b, L, hn, h => by
    by_cases hb : b = []
    · subst hb
      cases L with
      | nil => rfl
      | cons r L => simp [linesR] at h
    · rcases cut_ways 10 b with ⟨a, r, rfl, hno⟩ | hno
      · rw [linesR_hit hno] at h
        cases L with
        | nil => cases h
        | cons x L =>
          rw [List.map_cons, List.cons.injEq, Prod.mk.injEq] at h
          obtain ⟨⟨rfl, _⟩, h⟩ := h
          have hl : r.length < n := by simp at hn; omega
          rw [tailL_cons, ← tail_of (n - 1) r L (by omega) h]
      · unfold linesR at h
        rw [if_neg hb, linesL_miss hno] at h
        cases L with
        | nil => cases h
        | cons x L =>
          rw [List.map_cons, List.cons.injEq, Prod.mk.injEq] at h
          cases h.1.2
  termination_by n => n
  decreasing_by omega
/-- WHAT WAS READ HAS THE TEXT THAT WAS READ -/
theorem read_back {b : List UInt8} {m : List Rf} (h : readL b = (m, 0)) : bodyL m = b ∧ errT m = 0 ∧ ∀ r ∈ m, goodR r := by
  have hs : ∃ ls, linesL b = (firstL, true) :: ls ∧ readG [] ls = (m, 0) := by
    unfold readL at h
    rw [linesL_step] at h ⊢
    simp only [readS] at h
    split at h
    · rename_i h1
      exact ⟨_, by rw [h1.1, h1.2], h⟩
    · cases h
  obtain ⟨ls, h1, h2⟩ := hs
  obtain ⟨t, rfl, rfl, h3, h4, h5⟩ := readG_back ls [] m h2
  refine ⟨?_, ?_, h5⟩
  · rcases cut_ways 10 b with ⟨a, r, rfl, hno⟩ | hno
    · rw [linesL_hit hno, List.cons.injEq, Prod.mk.injEq] at h1
      obtain ⟨⟨rfl, _⟩, h1⟩ := h1
      rw [bodyL_eq, ← tail_of r.length r _ (Nat.le_refl _) h1]
    · rw [linesL_miss hno, List.cons.injEq, Prod.mk.injEq] at h1
      cases h1.1.2
  · unfold errT
    rw [if_neg (by have := h4 (by simp); omega), h3]
/-- a reference without what no line tells -/
def normR (r : Rf) : Rf := if r.m then ⟨true, r.d, 0⟩ else r
theorem normR_d (r : Rf) : (normR r).d = r.d := by unfold normR; split <;> rfl
theorem normR_line (r : Rf) : lineL (normR r) = lineL r := by
  obtain ⟨m, d, n⟩ := r
  cases m <;> rfl
theorem hasD_norm (L : List Rf) (d : List UInt8) : hasD (L.map normR) d = hasD L d := by
  unfold hasD
  rw [List.any_map]
  congr 1
  funext r
  simp only [Function.comp, normR_d]
theorem normR_good {r : Rf} (hd : r.d.length = 32) (h : ¬ badR r = true) : goodR (normR r) := by
  obtain ⟨m, d, n⟩ := r
  cases m with
  | true => exact ⟨hd, fun _ => rfl, fun e => by cases e⟩
  | false =>
    refine ⟨hd, fun e => (by cases e), fun _ => ?_⟩
    simp [badR] at h
    exact ⟨by show 0 ≤ n; omega, by show n ≤ 999999999; omega⟩
theorem readG_lines : ∀ (L seen : List Rf), (∀ r ∈ L, r.d.length = 32) → errFrom seen L = 0 → seen.length + L.length ≤ 64 →
    readG (seen.map normR) (L.map fun r => (lineL r, true)) = ((seen ++ L).map normR, 0)
  | [], seen, _, _, _ => by rw [List.append_nil]; rfl
  | r :: L, seen, hf, h, hl => by
    unfold errFrom at h
    split at h
    · cases h
    · rename_i hb
      split at h
      · cases h
      · rename_i hd
        rw [List.length_cons] at hl
        have hg := normR_good (hf r (List.mem_cons_self ..)) hb
        rw [List.map_cons, ← normR_line, readG_some (refS_line hg), if_neg (by rw [List.length_map]; omega), normR_d, hasD_norm, if_neg hd]
        have ih := readG_lines L (seen ++ [r]) (fun x hx => hf x (List.mem_cons_of_mem _ hx)) h (by simp; omega)
        rw [List.map_append, List.map_cons, List.map_nil, List.append_assoc] at ih
        exact ih
theorem errFrom_n : ∀ (L seen : List Rf), errFrom seen L = 0 → ∀ r ∈ L, goodN r
  | [], _, _ => fun r hr => by cases hr
  | x :: L, seen, h => by
    unfold errFrom at h
    split at h
    · cases h
    · rename_i hb
      split at h
      · cases h
      · intro r hr
        rcases List.mem_cons.1 hr with rfl | hr
        · cases hm : r.m
          · right
            simp [badR, hm] at hb
            omega
          · exact .inl hm
        · exact errFrom_n L _ h r hr
/-- REFERENCES ARE READ FROM THEIR TEXT -/
theorem read_text {L : List Rf} (hf : allFit L) (h : errT L = 0) : readL (bodyL L) = (L.map normR, 0) := by
  unfold errT at h
  split at h
  · cases h
  · rename_i h64
    unfold readL
    rw [bodyL_eq, linesL_hit firstL_no, readS, if_pos ⟨rfl, rfl⟩, linesR_tail (errFrom_n L [] h)]
    exact readG_lines L [] (fun r hr => (hf r hr).1) h (by simp; omega)
end Go.Proofs.YtolaecdopfmbgaaDoor
