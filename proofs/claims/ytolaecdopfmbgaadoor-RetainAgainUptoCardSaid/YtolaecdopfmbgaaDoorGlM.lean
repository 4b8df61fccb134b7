/- Which texts a list of parts stands for, and that the greedy walk finds just that: plain Lean, no condition. -/
import Derived.Test.YtolaecdopfmbgaaDoorGlE
namespace Go.Proofs.YtolaecdopfmbgaaDoor.Gl

/-- parts stand for a text -/
def M : List PY → List UInt8 → Bool
  | [], s => s.isEmpty
  | x :: l, [] => x.m && M l []
  | x :: l, c :: t => if x.m then M l (c :: t) || M (x :: l) t else x.f c.toNat && M l t
termination_by l s => l.length + s.length

theorem M_many {x : PY} (hx : x.m = true) (l : List PY) (s : List UInt8) : M (x :: l) s = (M l s || (!s.isEmpty && M (x :: l) s.tail)) := by
  cases s with
  | nil => rw [M]; simp [hx]
  | cons c t => rw [M, if_pos hx]; simp
theorem M_one {x : PY} (hx : x.m = false) (l : List PY) (s : List UInt8) : M (x :: l) s = match s with | [] => false | c :: t => x.f c.toNat && M l t := by
  cases s with
  | nil => rw [M]; simp [hx]
  | cons c t => rw [M]; simp [hx]
/-- a row of any bytes takes more of them -/
theorem M_more {x : PY} (hx : x.m = true) (l : List PY) : ∀ (s : List UInt8) (k : Nat), k ≤ s.length → M (x :: l) (s.drop k) = true → M (x :: l) s = true
  | s, 0, _, h => by simpa using h
  | [], k + 1, hk, _ => by simp at hk
  | c :: t, k + 1, hk, h => by
    have := M_more hx l t k (by simpa using hk) (by simpa using h)
    rw [M_many hx]; simp [this]
/-- where a row of any bytes has ended -/
theorem M_ends {x : PY} (hx : x.m = true) (l : List PY) : ∀ (s : List UInt8), M (x :: l) s = true → ∃ k, k ≤ s.length ∧ M l (s.drop k) = true
  | [], h => ⟨0, by simp, by rw [M] at h; simp at h; simpa using h.2⟩
  | c :: t, h => by
    rw [M_many hx] at h
    simp only [Bool.or_eq_true, Bool.and_eq_true, List.tail_cons] at h
    rcases h with h | ⟨_, h⟩
    · exact ⟨0, by simp, by simpa using h⟩
    · obtain ⟨k, hk, hm⟩ := M_ends hx l t h
      exact ⟨k + 1, by simpa using hk, by simpa using hm⟩
/-- parts of one byte each take one byte each -/
theorem M_ones (r : List PY) : ∀ (l : List PY) (s : List UInt8), (∀ x ∈ l, x.m = false) → M (l ++ r) s = true → l.length ≤ s.length ∧ M r (s.drop l.length) = true
  | [], s, _, h => ⟨by simp, by simpa using h⟩
  | x :: l, s, hl, h => by
    rw [List.cons_append, M_one (hl x (by simp))] at h
    cases s with
    | nil => simp at h
    | cons c t =>
      simp only [Bool.and_eq_true] at h
      obtain ⟨h1, h2⟩ := M_ones r l t (fun y hy => hl y (by simp [hy])) h.2
      exact ⟨by simpa using h1, by simpa using h2⟩
theorem M_nil (l : List PY) : M l [] = l.all (·.m) := by
  induction l with
  | nil => rw [M]; rfl
  | cons x l ih => rw [M, ih]; rfl

/-- WHAT THE GREEDY WALK KEEPS: at which part and byte it is; the last row of any bytes, and where that ends. -/
structure Greedy (l : List PY) (s : List UInt8) (p i : Nat) (star : Int) (back : Nat) : Prop where
  hp : p ≤ l.length
  hi : i ≤ s.length
  hb : back ≤ i
  low : -1 ≤ star
  high : star < p
  none : star < 0 → back = 0 ∧ M l s = M (l.drop p) (s.drop i)
  some : ∀ st : Nat, star = st → (∃ x, l[st]? = some x ∧ x.m = true) ∧ (∀ k x, st < k → k < p → l[k]? = some x → x.m = false) ∧ p - (st + 1) = i - back ∧
    M l s = (M (l.drop p) (s.drop i) || (decide (back < s.length) && M (l.drop st) (s.drop (back + 1))))

theorem Greedy.start (l : List PY) (s : List UInt8) : Greedy l s 0 0 (-1) 0 :=
  ⟨by omega, by omega, by omega, by omega, by omega, fun _ => ⟨rfl, rfl⟩, fun st h => by omega⟩

theorem drop_at {α : Type} {l : List α} {k : Nat} {x : α} (h : l[k]? = some x) : l.drop k = x :: l.drop (k + 1) := by
  obtain ⟨hk, hx⟩ := List.getElem?_eq_some_iff.1 h
  rw [List.drop_eq_getElem_cons hk, hx]

/-- whatever the last row of any bytes takes more, the parts behind it end further back -/
theorem Greedy.late {l : List PY} {s : List UInt8} {p i : Nat} {st back : Nat} (hp : p ≤ l.length) (hst : st < p) (hx : ∃ x, l[st]? = Option.some x ∧ x.m = true)
    (hs : ∀ k x, st < k → k < p → l[k]? = Option.some x → x.m = false) (hd : p - (st + 1) = i - back) (hb : back ≤ i) (hlt : back < s.length) (h : M (l.drop st) (s.drop (back + 1)) = true) :
    ∃ k, i < k ∧ k ≤ s.length ∧ M (l.drop p) (s.drop k) = true := by
  obtain ⟨x, hx1, hx2⟩ := hx
  rw [drop_at hx1] at h
  obtain ⟨k, hk, hm⟩ := M_ends hx2 _ _ h
  rw [List.drop_drop] at hm
  rw [List.length_drop] at hk
  have e : l.drop (st + 1) = ((l.drop (st + 1)).take (p - (st + 1))) ++ l.drop p := by
    have := (List.take_append_drop (p - (st + 1)) (l.drop (st + 1))).symm
    rwa [List.drop_drop, show st + 1 + (p - (st + 1)) = p by omega] at this
  rw [e] at hm
  obtain ⟨h1, h2⟩ := M_ones _ _ _ (fun y hy => by
    obtain ⟨j, hj⟩ := List.mem_iff_getElem?.1 hy
    rw [List.getElem?_take] at hj
    split at hj
    · rw [List.getElem?_drop] at hj
      exact hs _ y (by omega) (by omega) hj
    · cases hj) hm
  rw [List.length_take, List.length_drop, List.length_drop] at h1
  rw [List.length_take, List.length_drop, List.drop_drop] at h2
  refine ⟨_, ?_, ?_, h2⟩ <;> omega

variable {l : List PY} {s : List UInt8} {p i back : Nat} {star : Int}
/-- at a row of any bytes -/
theorem Greedy.many (h : Greedy l s p i star back) (hi : i < s.length) {x : PY} (hx : l[p]? = Option.some x) (hm : x.m = true) : Greedy l s (p + 1) i p i := by
  have hp := (List.getElem?_eq_some_iff.1 hx).1
  have key : M l s = M (l.drop p) (s.drop i) := by
    by_cases hst : star < 0
    · exact (h.none hst).2
    · obtain ⟨st, rfl⟩ := Int.eq_ofNat_of_zero_le (Int.not_lt.1 hst)
      obtain ⟨h1, h2, h3, h4⟩ := h.some st rfl
      rw [h4]
      by_cases hq : (decide (back < s.length) && M (l.drop st) (s.drop (back + 1))) = true
      · simp only [Bool.and_eq_true, decide_eq_true_eq] at hq
        have hhigh := h.high
        obtain ⟨k, hk1, hk2, hk3⟩ := Greedy.late h.hp (by omega) h1 h2 h3 h.hb hq.1 hq.2
        rw [drop_at hx] at hk3 ⊢
        have := M_more hm _ (s.drop i) (k - i) (by rw [List.length_drop]; omega) (by rw [List.drop_drop, show i + (k - i) = k by omega]; exact hk3)
        rw [this]; rfl
      · rw [Bool.not_eq_true] at hq
        rw [hq, Bool.or_false]
  refine ⟨by omega, by omega, by omega, by omega, by omega, fun h => by omega, fun st e => ?_⟩
  obtain rfl : p = st := by omega
  refine ⟨⟨x, hx, hm⟩, fun k y h1 h2 => by omega, by omega, ?_⟩
  rw [key, drop_at hx, M_many hm, decide_eq_true hi, Bool.true_and, List.tail_drop]
  have : (s.drop i).isEmpty = false := by rw [List.isEmpty_eq_false_iff]; intro e; have := congrArg List.length e; simp at this; omega
  rw [this]; rfl
/-- a byte that is one of a set -/
theorem Greedy.one (h : Greedy l s p i star back) {x : PY} {c : UInt8} (hc : s[i]? = Option.some c) (hx : l[p]? = Option.some x) (hm : x.m = false) (hf : x.f c.toNat = true) : Greedy l s (p + 1) (i + 1) star back := by
  have hp := (List.getElem?_eq_some_iff.1 hx).1
  have hi := (List.getElem?_eq_some_iff.1 hc).1
  have key : M (l.drop p) (s.drop i) = M (l.drop (p + 1)) (s.drop (i + 1)) := by
    rw [drop_at hx, drop_at hc, M_one hm]; simp [hf]
  refine ⟨by omega, by omega, by have := h.hb; omega, h.low, by have := h.high; omega, fun hs => ?_, fun st e => ?_⟩
  · obtain ⟨h1, h2⟩ := h.none hs
    exact ⟨h1, by rw [h2, key]⟩
  · obtain ⟨h1, h2, h3, h4⟩ := h.some st e
    have hhigh := h.high
    have hb := h.hb
    refine ⟨h1, fun k y a b hy => ?_, by omega, by rw [h4, key]⟩
    by_cases hk : k = p
    · subst hk; rw [hx] at hy; cases hy; exact hm
    · exact h2 k y a (by omega) hy
/-- nothing fits here -/
theorem Greedy.stuck (hi : i < s.length) {c : UInt8} (hc : s[i]? = Option.some c) (hno : ∀ x, l[p]? = Option.some x → x.m = false ∧ x.f c.toNat = false) : M (l.drop p) (s.drop i) = false := by
  rw [drop_at hc]
  cases hx : l[p]? with
  | none => rw [List.drop_eq_nil_of_le (List.getElem?_eq_none_iff.1 hx), M]; rfl
  | some x =>
    obtain ⟨h1, h2⟩ := hno x hx
    rw [drop_at hx, M_one h1]; simp [h2]
theorem Greedy.fails (h : Greedy l s p i star back) (hs : star < 0) {c : UInt8} (hc : s[i]? = Option.some c) (hno : ∀ x, l[p]? = Option.some x → x.m = false ∧ x.f c.toNat = false) : M l s = false := by
  rw [(h.none hs).2, Greedy.stuck (List.getElem?_eq_some_iff.1 hc).1 hc hno]
theorem Greedy.again (h : Greedy l s p i star back) {st : Nat} (hs : star = st) {c : UInt8} (hc : s[i]? = Option.some c) (hno : ∀ x, l[p]? = Option.some x → x.m = false ∧ x.f c.toNat = false) : Greedy l s (st + 1) (back + 1) star (back + 1) := by
  have hi := (List.getElem?_eq_some_iff.1 hc).1
  obtain ⟨⟨x, hx, hm⟩, h2, h3, h4⟩ := h.some st hs
  have hl := (List.getElem?_eq_some_iff.1 hx).1
  have hb := h.hb
  refine ⟨by omega, by omega, by omega, h.low, by omega, fun e => by omega, fun st' e => ?_⟩
  obtain rfl : st = st' := by omega
  refine ⟨⟨x, hx, hm⟩, fun k y a b => by omega, by omega, ?_⟩
  rw [h4, Greedy.stuck hi hc hno, Bool.false_or, decide_eq_true (by omega), Bool.true_and, drop_at hx, M_many hm, List.tail_drop]
  by_cases he : back + 1 < s.length
  · have : (s.drop (back + 1)).isEmpty = false := by rw [List.isEmpty_eq_false_iff]; intro e; have := congrArg List.length e; simp at this; omega
    rw [this, decide_eq_true he]; rfl
  · have : (s.drop (back + 1)).isEmpty = true := by rw [List.isEmpty_iff]; exact List.drop_eq_nil_of_le (by omega)
    rw [this, decide_eq_false he]; rfl
/-- all bytes are gone -/
theorem Greedy.done (h : Greedy l s p i star back) (hi : i = s.length) : M l s = (l.drop p).all (·.m) := by
  subst hi
  by_cases hst : star < 0
  · rw [(h.none hst).2, List.drop_length, M_nil]
  · obtain ⟨st, rfl⟩ := Int.eq_ofNat_of_zero_le (Int.not_lt.1 hst)
    obtain ⟨h1, h2, h3, h4⟩ := h.some st rfl
    rw [h4, List.drop_length, M_nil]
    by_cases hq : (decide (back < s.length) && M (l.drop st) (s.drop (back + 1))) = true
    · simp only [Bool.and_eq_true, decide_eq_true_eq] at hq
      have hhigh := h.high
      obtain ⟨k, hk1, hk2, _⟩ := Greedy.late h.hp (by omega) h1 h2 h3 h.hb hq.1 hq.2
      omega
    · rw [Bool.not_eq_true] at hq
      rw [hq, Bool.or_false]
end Go.Proofs.YtolaecdopfmbgaaDoor.Gl
