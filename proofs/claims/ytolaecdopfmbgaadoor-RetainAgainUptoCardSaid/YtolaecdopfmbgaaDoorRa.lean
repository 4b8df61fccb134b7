/- Plain laws of the order of names as versions: parts, comparison, rows of names, each once, rising. No condition. -/
import Derived.Lib.Bytealg
import Derived.Lib.Small
import Derived.Lib.TrimByte
import Derived.Lib.SlicesCompact
import Derived.Sort.Statements
namespace Go.Proofs.YtolaecdopfmbgaaDoor
open Go.Lib

def figB (c : UInt8) : Bool := decide (48 ≤ c) && decide (c ≤ 57)
def partsV : List UInt8 → List (List UInt8)
  | [] => []
  | a :: r => match partsV r with
    | (b :: p) :: ps => if figB a == figB b then (a :: b :: p) :: ps else [a] :: (b :: p) :: ps
    | l => [a] :: l

theorem partsV_nil : partsV [] = [] := rfl
theorem partsV_ne : ∀ (s : List UInt8), ∀ p ∈ partsV s, p ≠ []
  | [] => fun _ h => by simp [partsV] at h
  | a :: r => by
    intro p hp
    have ih := partsV_ne r
    simp only [partsV] at hp
    split at hp
    · rename_i b q ps e
      split at hp
      · rcases List.mem_cons.1 hp with rfl | h
        · simp
        · exact ih p (by rw [e]; exact List.mem_cons_of_mem _ h)
      · rcases List.mem_cons.1 hp with rfl | h
        · simp
        · exact ih p (by rw [e]; exact h)
    · rcases List.mem_cons.1 hp with rfl | h
      · simp
      · exact ih p h
theorem partsV_cons_head (a : UInt8) (r : List UInt8) : ∃ p ps, partsV (a :: r) = (a :: p) :: ps := by
  simp only [partsV]
  split
  · split
    · exact ⟨_, _, rfl⟩
    · exact ⟨_, _, rfl⟩
  · exact ⟨_, _, rfl⟩
theorem partsV_flatten : ∀ (s : List UInt8), (partsV s).flatten = s
  | [] => rfl
  | a :: r => by
    have ih := partsV_flatten r
    simp only [partsV]
    split
    · rename_i b q ps e
      rw [e] at ih
      split <;> simpa using ih
    · simpa using ih
theorem partsV_one (a : UInt8) : partsV [a] = [[a]] := rfl
theorem partsV_same (a b : UInt8) (r : List UInt8) (h : figB a = figB b) : ∃ p ps, partsV (b :: r) = (b :: p) :: ps ∧ partsV (a :: b :: r) = (a :: b :: p) :: ps := by
  obtain ⟨p, ps, e⟩ := partsV_cons_head b r
  refine ⟨p, ps, e, ?_⟩
  rw [partsV, e]
  simp [h]
theorem partsV_other (a b : UInt8) (r : List UInt8) (h : figB a ≠ figB b) : partsV (a :: b :: r) = [a] :: partsV (b :: r) := by
  obtain ⟨p, ps, e⟩ := partsV_cons_head b r
  rw [partsV, e]
  simp [h]
/-- the first part is the first run of bytes of one kind -/
theorem partsV_run : ∀ (p : List UInt8) (a : UInt8) (r : List UInt8), (∀ c ∈ p, figB c = figB a) → (∀ c r', r = c :: r' → figB c ≠ figB a) →
    partsV (a :: p ++ r) = (a :: p) :: partsV r
  | [], a, r => by
    intro _ h
    cases r with
    | nil => rfl
    | cons c r' => exact partsV_other a c r' (fun e => h c r' rfl e.symm)
  | b :: p, a, r => by
    intro hp h
    have hb : figB b = figB a := hp b (List.mem_cons_self ..)
    have ih := partsV_run p b r (fun c hc => (hp c (List.mem_cons_of_mem _ hc)).trans hb.symm) (fun c r' e => by rw [hb]; exact h c r' e)
    obtain ⟨q, ps, e1, e2⟩ := partsV_same a b (p ++ r) hb.symm
    have e3 : partsV (b :: (p ++ r)) = (b :: p) :: partsV r := ih
    rw [e1] at e3
    injection e3 with e4 e5
    injection e4 with _ e6
    show partsV (a :: b :: (p ++ r)) = _
    rw [e2, e6, e5]

/-- which of two rows of figures is ahead -/
def numC (a b : List UInt8) : Int :=
  if (trimLeftB a 48).length ≠ (trimLeftB b 48).length then compareInt (trimLeftB a 48).length (trimLeftB b 48).length
  else if trimLeftB a 48 ≠ trimLeftB b 48 then compareBytes (trimLeftB a 48) (trimLeftB b 48) else compareInt a.length b.length
def partC (a b : List UInt8) : Int :=
  if figB (a.headD 0) then (if figB (b.headD 0) then numC a b else -1) else if figB (b.headD 0) then 1 else compareBytes a b
def cmpC : List (List UInt8) → List (List UInt8) → Int
  | [], [] => 0
  | [], _ :: _ => -1
  | _ :: _, [] => 1
  | a :: as, b :: bs => if partC a b ≠ 0 then partC a b else cmpC as bs
def verC (a b : List UInt8) : Int := cmpC (partsV a) (partsV b)

/-- a comparison that is an order of all -/
structure IsC {α : Type} (c : α → α → Int) : Prop where
  neg : ∀ x y, c y x = - c x y
  tr : ∀ x y z, c x y < 0 → c y z < 0 → c x z < 0
  eq : ∀ x y, c x y = 0 → x = y
theorem IsC.refl {α : Type} {c : α → α → Int} (h : IsC c) (x : α) : c x x = 0 := by have := h.neg x x; omega
theorem IsC.zero {α : Type} {c : α → α → Int} (h : IsC c) (x y : α) : c x y = 0 ↔ x = y := ⟨h.eq x y, fun e => e ▸ h.refl x⟩

theorem bytes_neg : ∀ (x y : List UInt8), compareBytes y x = - compareBytes x y
  | [], [] => rfl
  | [], _ :: _ => rfl
  | _ :: _, [] => rfl
  | a :: as, b :: bs => by
    have ih := bytes_neg as bs
    simp only [compareBytes]
    by_cases h1 : a < b
    · have h2 : ¬ b < a := fun h => by have := UInt8.lt_iff_toNat_lt.1 h; have := UInt8.lt_iff_toNat_lt.1 h1; omega
      rw [if_neg h2, if_pos h1, if_pos h1]
      rfl
    · by_cases h2 : b < a
      · rw [if_pos h2, if_neg h1, if_pos h2]
      · rw [if_neg h2, if_neg h1, if_neg h1, if_neg h2]; exact ih
theorem bytes_eq : ∀ (x y : List UInt8), compareBytes x y = 0 → x = y
  | [], [] => fun _ => rfl
  | [], _ :: _ => fun h => by simp [compareBytes] at h
  | _ :: _, [] => fun h => by simp [compareBytes] at h
  | a :: as, b :: bs => by
    intro h
    simp only [compareBytes] at h
    split at h
    · cases h
    · rename_i h1
      split at h
      · cases h
      · rename_i h2
        have e : a = b := UInt8.toNat_inj.1 (by rw [UInt8.lt_iff_toNat_lt] at h1 h2; omega)
        rw [e, bytes_eq as bs h]
theorem bytes_tr : ∀ (x y z : List UInt8), compareBytes x y < 0 → compareBytes y z < 0 → compareBytes x z < 0
  | [], [], _ => fun h => by simp [compareBytes] at h
  | [], _ :: _, [] => fun _ h => by simp [compareBytes] at h
  | [], _ :: _, _ :: _ => fun _ _ => by simp [compareBytes]
  | _ :: _, [], _ => fun h => by simp [compareBytes] at h
  | _ :: _, _ :: _, [] => fun _ h => by simp [compareBytes] at h
  | a :: as, b :: bs, c :: cs => by
    have ih := bytes_tr as bs cs
    simp only [compareBytes, UInt8.lt_iff_toNat_lt]
    intro h1 h2
    by_cases k1 : a.toNat < b.toNat
    · by_cases k2 : b.toNat < c.toNat
      · rw [if_pos (by omega)]; decide
      · rw [if_neg k2] at h2
        by_cases k3 : c.toNat < b.toNat
        · rw [if_pos k3] at h2; cases h2
        · rw [if_pos (by omega)]; decide
    · rw [if_neg k1] at h1
      by_cases k4 : b.toNat < a.toNat
      · rw [if_pos k4] at h1; cases h1
      · rw [if_neg k4] at h1
        by_cases k2 : b.toNat < c.toNat
        · rw [if_pos (by omega)]; decide
        · rw [if_neg k2] at h2
          by_cases k3 : c.toNat < b.toNat
          · rw [if_pos k3] at h2; cases h2
          · rw [if_neg k3] at h2
            rw [if_neg (by omega), if_neg (by omega)]
            exact ih h1 h2
theorem bytesC : IsC compareBytes := ⟨bytes_neg, bytes_tr, bytes_eq⟩

theorem int_neg (x y : Int) : compareInt y x = - compareInt x y := by
  unfold compareInt; split <;> split <;> (try split) <;> (try split) <;> first | rfl | omega
theorem int_lt (x y : Int) : compareInt x y < 0 ↔ x < y := by
  unfold compareInt; split
  · simp [*]
  · split
    · simp; omega
    · simp; omega
theorem int_eq (x y : Int) : compareInt x y = 0 ↔ x = y := by
  unfold compareInt; split
  · simp; omega
  · split
    · simp; omega
    · simp; omega

theorem trim_eq (a b : List UInt8) (h : trimLeftB a 48 = trimLeftB b 48) (hl : a.length = b.length) : a = b := by
  have key : ∀ (l : List UInt8), l = List.replicate (l.length - (trimLeftB l 48).length) 48 ++ trimLeftB l 48 := by
    intro l
    induction l with
    | nil => rfl
    | cons c r ih =>
      unfold trimLeftB at *
      rw [List.dropWhile_cons]
      split
      · rename_i hc
        have hc' : c = 48 := by simpa using hc
        have hlen := (List.dropWhile_suffix (p := (· == (48 : UInt8))) (l := r)).length_le
        rw [List.length_cons, show r.length + 1 - (r.dropWhile (· == 48)).length = (r.length - (r.dropWhile (· == 48)).length) + 1 by omega, List.replicate_succ, List.cons_append, ← ih, hc']
      · simp
  rw [key a, key b, h, hl]

theorem numC_is : IsC numC := by
  refine ⟨fun x y => ?_, fun x y z => ?_, fun x y => ?_⟩
  · unfold numC
    by_cases h1 : (trimLeftB x 48).length = (trimLeftB y 48).length
    · simp only [h1, ne_eq, not_true_eq_false, if_false]
      by_cases h2 : trimLeftB x 48 = trimLeftB y 48
      · simp only [h2, not_true_eq_false, if_false]; exact int_neg _ _
      · have h3 : ¬ trimLeftB y 48 = trimLeftB x 48 := fun e => h2 e.symm
        simp only [h2, h3, not_false_eq_true, if_true]; exact bytes_neg _ _
    · have h2 : ¬ (trimLeftB y 48).length = (trimLeftB x 48).length := fun e => h1 e.symm
      simp only [h1, h2, ne_eq, not_false_eq_true, if_true]; exact int_neg _ _
  · unfold numC
    intro h1 h2
    split at h1
    · rename_i k1
      have l1 := (int_lt _ _).1 h1
      split at h2
      · have l2 := (int_lt _ _).1 h2
        rw [if_pos (by omega)]; exact (int_lt _ _).2 (by omega)
      · rw [if_pos (by omega)]; exact (int_lt _ _).2 (by omega)
    · rename_i k1
      split at h2
      · have l2 := (int_lt _ _).1 h2
        rw [if_pos (by omega)]; exact (int_lt _ _).2 (by omega)
      · rename_i k2
        rw [if_neg (by omega)]
        split at h1
        · rename_i k3
          split at h2
          · rename_i k4
            have ht := bytes_tr _ _ _ h1 h2
            rw [if_pos (fun e => by rw [e, bytesC.refl] at ht; omega)]
            exact ht
          · rename_i k4
            have k4' : trimLeftB y 48 = trimLeftB z 48 := by simpa using k4
            rw [← k4', if_pos k3]; exact h1
        · rename_i k3
          have k3' : trimLeftB x 48 = trimLeftB y 48 := by simpa using k3
          rw [k3']
          split at h2
          · rename_i k4
            rw [if_pos k4]; exact h2
          · rename_i k4
            rw [if_neg k4]
            have l1 := (int_lt _ _).1 h1
            have l2 := (int_lt _ _).1 h2
            exact (int_lt _ _).2 (by omega)
  · unfold numC
    intro h
    split at h
    · rename_i k; have := (int_eq _ _).1 h; omega
    · split at h
      · rename_i k; exact absurd (bytes_eq _ _ h) k
      · rename_i k
        exact trim_eq x y (by simpa using k) (by have := (int_eq _ _).1 h; omega)

theorem partC_is : IsC partC := by
  refine ⟨fun x y => ?_, fun x y z => ?_, fun x y => ?_⟩
  · unfold partC
    cases figB (x.headD 0) <;> cases figB (y.headD 0) <;> simp [numC_is.neg x y, bytes_neg x y]
  · unfold partC
    have h1 := numC_is.tr x y z
    have h2 := bytes_tr x y z
    cases figB (x.headD 0) <;> cases figB (y.headD 0) <;> cases figB (z.headD 0) <;> simp <;> assumption
  · unfold partC
    cases figB (x.headD 0) <;> cases figB (y.headD 0) <;> simp
    · exact bytes_eq x y
    · exact numC_is.eq x y

theorem cmpC_neg : ∀ (x y : List (List UInt8)), cmpC y x = - cmpC x y
  | [], [] => rfl
  | [], _ :: _ => rfl
  | _ :: _, [] => rfl
  | a :: as, b :: bs => by
    have ih := cmpC_neg as bs
    have hn := partC_is.neg a b
    simp only [cmpC]
    by_cases h : partC a b = 0
    · rw [if_neg (by omega), if_neg (by omega)]; exact ih
    · rw [if_pos (by omega), if_pos (by omega)]; exact hn
theorem cmpC_eq : ∀ (x y : List (List UInt8)), cmpC x y = 0 → x = y
  | [], [] => fun _ => rfl
  | [], _ :: _ => fun h => by simp [cmpC] at h
  | _ :: _, [] => fun h => by simp [cmpC] at h
  | a :: as, b :: bs => by
    intro h
    simp only [cmpC] at h
    split at h
    · rename_i k; exact absurd h k
    · rename_i k
      rw [partC_is.eq a b (by omega), cmpC_eq as bs h]
theorem cmpC_tr : ∀ (x y z : List (List UInt8)), cmpC x y < 0 → cmpC y z < 0 → cmpC x z < 0
  | [], [], _ => fun h => by simp [cmpC] at h
  | [], _ :: _, [] => fun _ h => by simp [cmpC] at h
  | [], _ :: _, _ :: _ => fun _ _ => by simp [cmpC]
  | _ :: _, [], _ => fun h => by simp [cmpC] at h
  | _ :: _, _ :: _, [] => fun _ h => by simp [cmpC] at h
  | a :: as, b :: bs, c :: cs => by
    have ih := cmpC_tr as bs cs
    have ht := partC_is.tr a b c
    simp only [cmpC]
    intro h1 h2
    by_cases k1 : partC a b = 0
    · rw [if_neg (by omega)] at h1
      have e := partC_is.eq a b k1
      subst e
      by_cases k2 : partC a c = 0
      · rw [if_neg (by omega)] at h2 ⊢; exact ih h1 h2
      · rw [if_pos k2] at h2 ⊢; exact h2
    · rw [if_pos k1] at h1
      by_cases k2 : partC b c = 0
      · have e := partC_is.eq b c k2
        subst e
        rw [if_pos k1]; exact h1
      · rw [if_pos k2] at h2
        have := ht h1 h2
        rw [if_pos (by omega)]; exact this
theorem verC_is : IsC verC := by
  refine ⟨fun x y => cmpC_neg _ _, fun x y z => cmpC_tr _ _ _, fun x y h => ?_⟩
  have e := cmpC_eq _ _ h
  rw [← partsV_flatten x, ← partsV_flatten y, e]

/-- names that rise, each once -/
def Srt (l : List (List UInt8)) : Prop := l.Pairwise fun a b => verC a b < 0
theorem srt_ext : ∀ (a b : List (List UInt8)), Srt a → Srt b → (∀ x, x ∈ a ↔ x ∈ b) → a = b
  | [], [], _, _, _ => rfl
  | [], y :: b, _, _, h => absurd ((h y).2 (List.mem_cons_self ..)) (by simp)
  | x :: a, [], _, _, h => absurd ((h x).1 (List.mem_cons_self ..)) (by simp)
  | x :: a, y :: b, ha, hb, h => by
    obtain ⟨ha1, ha2⟩ := List.pairwise_cons.1 ha
    obtain ⟨hb1, hb2⟩ := List.pairwise_cons.1 hb
    have hxy : x = y := by
      rcases List.mem_cons.1 ((h x).1 (List.mem_cons_self ..)) with e | hx
      · exact e
      rcases List.mem_cons.1 ((h y).2 (List.mem_cons_self ..)) with e | hy
      · exact e.symm
      have l1 := ha1 y hy
      have l2 := hb1 x hx
      have := verC_is.neg x y
      omega
    subst hxy
    have hne : ∀ l : List (List UInt8), (∀ z ∈ l, verC x z < 0) → x ∉ l := fun l hl hm => by have := hl x hm; rw [verC_is.refl] at this; omega
    rw [srt_ext a b ha2 hb2 fun z => ?_]
    constructor
    · intro hz
      rcases List.mem_cons.1 ((h z).1 (List.mem_cons_of_mem _ hz)) with e | hz'
      · subst e; exact absurd hz (hne a ha1)
      · exact hz'
    · intro hz
      rcases List.mem_cons.1 ((h z).2 (List.mem_cons_of_mem _ hz)) with e | hz'
      · subst e; exact absurd hz (hne b hb1)
      · exact hz'

def insV (x : List UInt8) : List (List UInt8) → List (List UInt8)
  | [] => [x]
  | y :: ys => if x = y then y :: ys else if verC x y < 0 then x :: y :: ys else y :: insV x ys
def rowV (l : List (List UInt8)) : List (List UInt8) := l.foldl (fun out x => insV x out) []
theorem insV_mem (x z : List UInt8) : ∀ (l : List (List UInt8)), z ∈ insV x l ↔ z = x ∨ z ∈ l
  | [] => by simp [insV]
  | y :: ys => by
    have ih := insV_mem x z ys
    unfold insV
    split
    · rename_i e; subst e; simp
    · split
      · simp
      · simp only [List.mem_cons, ih]; constructor
        · rintro (h | h | h) <;> simp [h]
        · rintro (h | h | h) <;> simp [h]
theorem insV_srt (x : List UInt8) : ∀ (l : List (List UInt8)), Srt l → Srt (insV x l)
  | [] => fun _ => by unfold insV Srt; simp
  | y :: ys => by
    intro h
    obtain ⟨h1, h2⟩ := List.pairwise_cons.1 h
    unfold insV
    split
    · exact h
    · rename_i k1
      split
      · rename_i k2
        refine List.pairwise_cons.2 ⟨fun z hz => ?_, h⟩
        rcases List.mem_cons.1 hz with rfl | hz
        · exact k2
        · exact verC_is.tr _ _ _ k2 (h1 z hz)
      · rename_i k2
        refine List.pairwise_cons.2 ⟨fun z hz => ?_, insV_srt x ys h2⟩
        rcases (insV_mem x z ys).1 hz with rfl | hz
        · have := verC_is.neg y z
          have h0 : verC y z ≠ 0 := fun e => k1 (verC_is.eq _ _ e).symm
          omega
        · exact h1 z hz
theorem foldl_ins_mem (z : List UInt8) : ∀ (l acc : List (List UInt8)), z ∈ l.foldl (fun out x => insV x out) acc ↔ z ∈ acc ∨ z ∈ l
  | [], acc => by simp
  | x :: l, acc => by
    rw [List.foldl_cons, foldl_ins_mem z l, insV_mem]
    simp only [List.mem_cons]
    constructor
    · rintro ((h | h) | h) <;> simp [h]
    · rintro (h | h | h) <;> simp [h]
theorem foldl_ins_srt : ∀ (l acc : List (List UInt8)), Srt acc → Srt (l.foldl (fun out x => insV x out) acc)
  | [], _, h => h
  | x :: l, acc, h => foldl_ins_srt l (insV x acc) (insV_srt x acc h)
theorem rowV_mem (z : List UInt8) (l : List (List UInt8)) : z ∈ rowV l ↔ z ∈ l := by unfold rowV; rw [foldl_ins_mem]; simp
theorem rowV_srt (l : List (List UInt8)) : Srt (rowV l) := foldl_ins_srt l [] List.Pairwise.nil
theorem rowV_of (l m : List (List UInt8)) (hm : Srt m) (h : ∀ x, x ∈ m ↔ x ∈ l) : m = rowV l :=
  srt_ext m (rowV l) hm (rowV_srt l) fun x => (h x).trans (rowV_mem x l).symm
theorem rowV_self (l : List (List UInt8)) (h : Srt l) : rowV l = l := (rowV_of l l h fun _ => Iff.rfl).symm
theorem rowV_congr (l m : List (List UInt8)) (h : ∀ x, x ∈ l ↔ x ∈ m) : rowV l = rowV m := rowV_of m (rowV l) (rowV_srt l) fun x => (rowV_mem x l).trans (h x)
theorem Srt.nodup {l : List (List UInt8)} (h : Srt l) : l.Nodup := h.imp fun {a b} hab e => by subst e; rw [verC_is.refl] at hab; omega
theorem Srt.filter {l : List (List UInt8)} (h : Srt l) (p : List UInt8 → Bool) : Srt (l.filter p) := List.Pairwise.filter p h

/-- compact of a row that doesn't fall -/
theorem compact_srt (d : Array (List UInt8)) (h : ∀ i j, i < j → j < d.size → ¬ verC d[j]! d[i]! < 0) :
    ∀ m, m ≤ d.size → Srt (compactUpTo d m) ∧ (∀ x, x ∈ compactUpTo d m ↔ ∃ i, i < m ∧ d[i]! = x) := by
  intro m
  induction m with
  | zero => intro _; exact ⟨List.Pairwise.nil, fun x => by simp [compactUpTo]⟩
  | succ m ih =>
    intro hm
    obtain ⟨ih1, ih2⟩ := ih (by omega)
    rw [compactUpTo_succ]
    by_cases hk : keeps d m = true
    · rw [if_pos hk]
      constructor
      · refine List.pairwise_append.2 ⟨ih1, by simp, fun a ha b hb => ?_⟩
        obtain ⟨i, hi, rfl⟩ := (ih2 a).1 ha
        obtain rfl : b = d[m]! := by simpa using hb
        have hne : d[m]! ≠ d[m - 1]! := by
          intro e
          rw [keeps_neg (by omega) e] at hk
          cases hk
        have h1 := h (m - 1) m (by omega) (by omega)
        have h2 := verC_is.neg d[m]! d[m - 1]!
        have h3 : verC d[m]! d[m - 1]! ≠ 0 := fun e => hne (verC_is.eq _ _ e)
        rcases Nat.lt_or_ge i (m - 1) with hi' | hi'
        · have h4 := h i (m - 1) hi' (by omega)
          have h5 := verC_is.neg d[m - 1]! d[i]!
          by_cases h6 : verC d[i]! d[m - 1]! = 0
          · rw [verC_is.eq _ _ h6]; omega
          · exact verC_is.tr _ d[m - 1]! _ (by omega) (by omega)
        · obtain rfl : i = m - 1 := by omega
          omega
      · intro x
        simp only [List.mem_append, ih2, List.mem_singleton]
        constructor
        · rintro (⟨i, hi, e⟩ | e)
          · exact ⟨i, by omega, e⟩
          · exact ⟨m, by omega, e.symm⟩
        · rintro ⟨i, hi, e⟩
          rcases Nat.lt_or_ge i m with hi' | hi'
          · exact Or.inl ⟨i, hi', e⟩
          · obtain rfl : i = m := by omega
            exact Or.inr e.symm
    · rw [if_neg hk, List.append_nil]
      refine ⟨ih1, fun x => (ih2 x).trans ⟨fun ⟨i, hi, e⟩ => ⟨i, by omega, e⟩, fun ⟨i, hi, e⟩ => ?_⟩⟩
      rcases Nat.lt_or_ge i m with hi' | hi'
      · exact ⟨i, hi', e⟩
      · obtain rfl : i = m := by omega
        by_cases h0 : i = 0
        · subst h0; exact absurd (keeps_lt_one d 0 (by omega)) hk
        · refine ⟨i - 1, by omega, ?_⟩
          by_cases e' : d[i]! = d[i - 1]!
          · rw [← e', e]
          · exact absurd (keeps_pos e') hk
theorem swoV {β : Type} (f : β → List UInt8) : Go.Sort.SWO (fun x y => decide (verC (f x) (f y) < 0)) where
  irrefl x := by simp [verC_is.refl]
  trans x y z h1 h2 := by simp at *; exact verC_is.tr _ _ _ h1 h2
  ntrans x y z h1 h2 := by
    simp only [decide_eq_false_iff_not] at *
    intro h3
    have n1 := verC_is.neg (f x) (f y)
    have n2 := verC_is.neg (f y) (f z)
    have n3 := verC_is.neg (f x) (f z)
    by_cases e1 : verC (f x) (f y) = 0
    · rw [verC_is.eq _ _ e1] at h3; exact h2 h3
    · by_cases e2 : verC (f y) (f z) = 0
      · rw [← verC_is.eq _ _ e2] at h3; exact h1 h3
      · have := verC_is.tr (f z) (f y) (f x) (by omega) (by omega)
        omega
end Go.Proofs.YtolaecdopfmbgaaDoor
