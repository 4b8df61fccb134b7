/- Lines of operations: the plain law: what an operation's line is, which operation a line is, and that one undoes the other. No condition. -/
import Derived.Test.YtjplfkcelkijfaaGreatDoorLnA
import Derived.Test.YtjplfkcelkijfaaGreatDoorHxV
namespace Go.Proofs.YtjplfkcelkijfaaGreatDoor

/-- what stands between bytes c -/
def splitC (c : UInt8) : List UInt8 → List (List UInt8)
  | [] => [[]]
  | x :: r => if x = c then [] :: splitC c r else (x :: (splitC c r).headD []) :: (splitC c r).tail
def joinC (c : UInt8) : List (List UInt8) → List UInt8
  | [] => []
  | [w] => w
  | w :: v :: r => w ++ c :: joinC c (v :: r)
theorem splitC_ne (c : UInt8) : ∀ s, splitC c s ≠ []
  | [] => by simp [splitC]
  | x :: r => by unfold splitC; split <;> simp
theorem join_split (c : UInt8) : ∀ s, joinC c (splitC c s) = s
  | [] => rfl
  | x :: r => by
    have ih := join_split c r
    have hne := splitC_ne c r
    unfold splitC
    cases h : splitC c r with
    | nil => exact absurd h hne
    | cons w ws =>
      rw [h] at ih
      by_cases hx : x = c
      · rw [if_pos hx]; subst hx
        show [] ++ x :: joinC x (w :: ws) = x :: r
        rw [ih]; rfl
      · rw [if_neg hx]
        simp only [List.headD_cons, List.tail_cons]
        cases ws with
        | nil => show x :: w = x :: r; rw [show w = r from ih]
        | cons v vs => show (x :: w) ++ c :: joinC c (v :: vs) = x :: r; rw [List.cons_append]; congr 1
theorem split_plain {c : UInt8} : ∀ {a : List UInt8}, (∀ x ∈ a, x ≠ c) → splitC c a = [a]
  | [], _ => rfl
  | x :: r, h => by
    unfold splitC
    rw [if_neg (h x (List.mem_cons_self ..)), split_plain fun y hy => h y (List.mem_cons_of_mem _ hy)]; rfl
theorem split_hit {c : UInt8} {r : List UInt8} : ∀ {a : List UInt8}, (∀ x ∈ a, x ≠ c) → splitC c (a ++ c :: r) = a :: splitC c r
  | [], _ => by
    have : splitC c (c :: r) = if c = c then [] :: splitC c r else (c :: (splitC c r).headD []) :: (splitC c r).tail := rfl
    rw [List.nil_append, this, if_pos rfl]
  | x :: a, h => by
    rw [List.cons_append]
    have : splitC c (x :: (a ++ c :: r)) = if x = c then [] :: splitC c (a ++ c :: r) else (x :: (splitC c (a ++ c :: r)).headD []) :: (splitC c (a ++ c :: r)).tail := rfl
    rw [this, if_neg (h x (List.mem_cons_self ..)), split_hit fun y hy => h y (List.mem_cons_of_mem _ hy)]; rfl
theorem split_join {c : UInt8} : ∀ {l : List (List UInt8)}, l ≠ [] → (∀ a ∈ l, ∀ x ∈ a, x ≠ c) → splitC c (joinC c l) = l
  | [], h, _ => absurd rfl h
  | [w], _, h => split_plain (h w (List.mem_cons_self ..))
  | w :: v :: r, _, h => by
    show splitC c (w ++ c :: joinC c (v :: r)) = _
    rw [split_hit (h w (List.mem_cons_self ..)), split_join (by simp) fun a ha => h a (List.mem_cons_of_mem _ ha)]
theorem split_no {c : UInt8} : ∀ (s : List UInt8), ∀ a ∈ splitC c s, ∀ x ∈ a, x ≠ c
  | [], a, ha, x, hx => by simp [splitC] at ha; subst ha; cases hx
  | y :: r, a, ha, x, hx => by
    have ih := split_no (c := c) r
    have hne := splitC_ne c r
    unfold splitC at ha
    cases h : splitC c r with
    | nil => exact absurd h hne
    | cons w ws =>
      rw [h] at ha ih
      by_cases hy : y = c
      · rw [if_pos hy] at ha
        rcases List.mem_cons.1 ha with rfl | ha
        · cases hx
        · exact ih a ha x hx
      · rw [if_neg hy] at ha
        simp only [List.headD_cons, List.tail_cons] at ha
        rcases List.mem_cons.1 ha with rfl | ha
        · rcases List.mem_cons.1 hx with rfl | hx
          · exact hy
          · exact ih w (List.mem_cons_self ..) x hx
        · exact ih a (List.mem_cons_of_mem _ ha) x hx

/-- an operation: kind, Id, Off, N, name, digest, data -/
structure OpV where
  k : Int
  i : Int
  o : Int
  n : Int
  t : List UInt8
  d : List UInt8
  b : List UInt8
def OpV.fits (x : OpV) : Prop := (-9223372036854775808 ≤ x.k ∧ x.k ≤ 9223372036854775807) ∧ (-9223372036854775808 ≤ x.i ∧ x.i ≤ 9223372036854775807) ∧ (-9223372036854775808 ≤ x.o ∧ x.o ≤ 9223372036854775807) ∧ (-9223372036854775808 ≤ x.n ∧ x.n ≤ 9223372036854775807) ∧ x.d.length = 32
def zeroOp : OpV := ⟨0, 0, 0, 0, [], zeroD, []⟩
def kindOp (k : Int) : OpV := ⟨k, 0, 0, 0, [], zeroD, []⟩
/-- the words of the kinds, and their parts: 0 Id, 1 Off, 2 N, 3 name, 4 digest, 5 data -/
def wordsT : List (List UInt8) := [[], [98, 101, 103, 105, 110], [99, 104, 117, 110, 107], [99, 111, 109, 109, 105, 116], [97, 98, 111, 114, 116], [109, 97, 110, 105, 102, 101, 115, 116], [103, 101, 116], [115, 116, 97, 116], [114, 101, 97, 100], [116, 97, 103], [117, 110, 116, 97, 103], [114, 101, 115, 111, 108, 118, 101], [108, 105, 115, 116], [100, 101, 108, 101, 116, 101], [99, 111, 108, 108, 101, 99, 116], [115, 121, 110, 99], [99, 108, 101, 97, 110], [99, 104, 101, 99, 107, 112, 111, 105, 110, 116], [104, 105, 110, 116], [102, 117, 115, 101], [99, 114, 97, 115, 104]]
def partsT : List (List Nat) := [[], [], [0, 1, 5], [0, 4], [0], [5], [4], [4], [4, 1, 2], [3, 4], [3], [3], [3, 2], [4], [], [], [], [], [], [2], [2, 5]]
def wordT (k : Nat) : List UInt8 := wordsT.getD k []
def partT (k : Nat) : List Nat := partsT.getD k []
def partL (x : OpV) (p : Nat) : List UInt8 :=
  match p with
  | 0 => Go.Lib.itoa x.i
  | 1 => Go.Lib.itoa x.o
  | 2 => Go.Lib.itoa x.n
  | 3 => 61 :: x.t
  | 4 => digT x.d
  | _ => 120 :: hexL x.b
/-- an operation's line -/
def textL (x : OpV) : List UInt8 := if 1 ≤ x.k ∧ x.k ≤ 20 then wordT x.k.toNat ++ (partT x.k.toNat).flatMap fun p => 32 :: partL x p else []

def tagByte (c : UInt8) : Bool := decide (97 ≤ c.toNat ∧ c.toNat ≤ 122) || decide (48 ≤ c.toNat ∧ c.toNat ≤ 57)
def tagMore (c : UInt8) : Bool := tagByte c || (decide (c.toNat = 46) || decide (c.toNat = 95) || decide (c.toNat = 45))
/-- is it a tag's name? -/
def tagOk (s : List UInt8) : Bool := match s with
  | [] => false
  | c :: _ => tagByte c && s.all tagMore && decide (s.length ≤ 32)
/-- a part taken in; an error's number -/
def takeV (x : OpV) (p : Nat) (s : List UInt8) : OpV × Int :=
  match p with
  | 0 => ({ x with i := (numV s).1 }, (numV s).2)
  | 1 => ({ x with o := (numV s).1 }, (numV s).2)
  | 2 => ({ x with n := (numV s).1 }, (numV s).2)
  | 3 => if s.head? = some 61 ∧ (s.tail = [] ∨ tagOk s.tail = true) then ({ x with t := s.tail }, 0) else (x, 3)
  | 4 => if digOk s then ({ x with d := digD s }, 0) else (x, 3)
  | _ => if s.head? = some 120 ∧ hexOk s.tail = true then ({ x with b := hexP s.tail }, 0) else (x, 3)
def takesV (x : OpV) : List Nat → List (List UInt8) → OpV × Int
  | p :: ps, s :: ss => if (takeV x p s).2 ≠ 0 then (zeroOp, (takeV x p s).2) else takesV (takeV x p s).1 ps ss
  | _, _ => (x, 0)
/-- the kind of a word; 0: there is none -/
def kindW (w : List UInt8) : Nat := ((List.range 21).find? fun k => decide (k ≠ 0) && decide (wordT k = w)).getD 0
/-- which operation a line is; an error's number -/
def readV (s : List UInt8) : OpV × Int :=
  if kindW ((splitC 32 s).headD []) = 0 then (zeroOp, 3)
  else if (splitC 32 s).length ≠ (partT (kindW ((splitC 32 s).headD []))).length + 1 then (zeroOp, 3)
  else takesV (kindOp (kindW ((splitC 32 s).headD []))) (partT (kindW ((splitC 32 s).headD []))) (splitC 32 s).tail
/-- with the parts alone that its kind has -/
def bareP (x : OpV) (y : OpV) (p : Nat) : OpV :=
  match p with
  | 0 => { y with i := x.i }
  | 1 => { y with o := x.o }
  | 2 => { y with n := x.n }
  | 3 => { y with t := x.t }
  | 4 => { y with d := x.d }
  | _ => { y with b := x.b }
def bareV (x : OpV) : OpV := if 1 ≤ x.k ∧ x.k ≤ 20 then (partT x.k.toNat).foldl (bareP x) (kindOp x.k) else kindOp x.k

theorem kindW_word : ∀ k : Fin 21, k.val ≠ 0 → kindW (wordT k.val) = k.val := by decide +kernel
theorem kindW_le (w : List UInt8) : kindW w ≤ 20 := by
  unfold kindW
  cases h : (List.range 21).find? fun k => decide (k ≠ 0) && decide (wordT k = w) with
  | none => simp
  | some k => have := List.mem_range.1 (List.mem_of_find?_eq_some h); simp; omega
theorem wordT_kindW {w : List UInt8} (h : kindW w ≠ 0) : wordT (kindW w) = w := by
  unfold kindW at h ⊢
  cases e : (List.range 21).find? fun k => decide (k ≠ 0) && decide (wordT k = w) with
  | none => rw [e] at h; exact absurd rfl h
  | some k =>
    have := List.find?_some e
    rw [Bool.and_eq_true] at this
    exact of_decide_eq_true this.2
theorem words_plain : ∀ w ∈ wordsT, ∀ x ∈ w, x ≠ 32 := by decide +kernel
theorem wordT_plain (k : Nat) : ∀ x ∈ wordT k, x ≠ 32 := by
  unfold wordT
  rw [List.getD_eq_getElem?_getD]
  cases h : wordsT[k]? with
  | none => intro x hx; simp at hx
  | some w => exact words_plain w (List.mem_of_getElem? h)
theorem dig_plain {s : List UInt8} (h : s.all isDig = true) : ∀ x ∈ s, x ≠ 32 := fun x hx e => by
  have := List.all_eq_true.1 h x hx
  subst e
  exact absurd this (by decide)
theorem itoa_plain (v : Int) : ∀ x ∈ Go.Lib.itoa v, x ≠ 32 := by
  unfold Go.Lib.itoa
  split
  · intro x hx
    rcases List.mem_cons.1 hx with rfl | hx
    · decide
    · exact dig_plain (decD_spec _ _ (Nat.le_refl _)).1 x hx
  · exact dig_plain (decD_spec _ _ (Nat.le_refl _)).1
theorem hexL_plain (d : List UInt8) : ∀ x ∈ hexL d, x ≠ 32 := fun x hx e => by
  unfold hexL at hx
  obtain ⟨c, _, hc⟩ := List.mem_flatMap.1 hx
  have := c.toNat_lt
  simp only [List.mem_cons, List.not_mem_nil, or_false] at hc
  have h48 : 48 ≤ x.toNat := by
    rcases hc with rfl | rfl
    · exact hexD_ge _ (by omega)
    · exact hexD_ge _ (by omega)
  subst e
  simp at h48
theorem tagMore_plain {c : UInt8} (h : tagMore c = true) : c ≠ 32 := fun e => by subst e; exact absurd h (by decide)
theorem tag_plain {s : List UInt8} (h : tagOk s = true) : ∀ x ∈ s, x ≠ 32 := fun x hx => by
  cases s with
  | nil => cases hx
  | cons c r =>
    unfold tagOk at h
    simp only [Bool.and_eq_true] at h
    exact tagMore_plain (List.all_eq_true.1 h.1.2 x hx)
theorem part_plain (x : OpV) (p : Nat) (ht : x.t = [] ∨ tagOk x.t = true) : ∀ c ∈ partL x p, c ≠ 32 := by
  intro c hc
  unfold partL at hc
  split at hc
  · exact itoa_plain _ c hc
  · exact itoa_plain _ c hc
  · exact itoa_plain _ c hc
  · rcases List.mem_cons.1 hc with rfl | hc
    · decide
    · rcases ht with ht | ht
      · rw [ht] at hc; cases hc
      · exact tag_plain ht c hc
  · intro e; have := digT_ge hc; subst e; simp at this
  · rcases List.mem_cons.1 hc with rfl | hc
    · decide
    · exact hexL_plain _ c hc
theorem take_part (x y : OpV) (hx : x.fits) (p : Nat) (ht : x.t = [] ∨ tagOk x.t = true) : takeV y p (partL x p) = (bareP x y p, 0) := by
  obtain ⟨_, hi, ho, hn, hd⟩ := hx
  match p with
  | 0 => show (_, _) = _; rw [show partL x 0 = Go.Lib.itoa x.i from rfl, num_itoa hi.1 hi.2]; rfl
  | 1 => show (_, _) = _; rw [show partL x 1 = Go.Lib.itoa x.o from rfl, num_itoa ho.1 ho.2]; rfl
  | 2 => show (_, _) = _; rw [show partL x 2 = Go.Lib.itoa x.n from rfl, num_itoa hn.1 hn.2]; rfl
  | 3 => show (if _ then _ else _) = _; rw [if_pos ⟨rfl, ht⟩]; rfl
  | 4 => show (if digOk (digT x.d) = true then (({ y with d := digD (digT x.d) } : OpV), (0 : Int)) else (y, 3)) = _; rw [if_pos (digOk_digT hd), digD_digT hd]; rfl
  | p + 5 => show (if _ then _ else _) = _; rw [if_pos ⟨rfl, hexOk_hexL x.b⟩]; show (({ y with b := hexP (hexL x.b) } : OpV), (0 : Int)) = _; rw [hexP_hexL]; rfl
theorem takes_parts (x : OpV) (hx : x.fits) (ht : x.t = [] ∨ tagOk x.t = true) : ∀ (ps : List Nat) (y : OpV), takesV y ps (ps.map (partL x)) = (ps.foldl (bareP x) y, 0)
  | [], _ => rfl
  | p :: ps, y => by
    show (if (takeV y p (partL x p)).2 ≠ 0 then _ else takesV (takeV y p (partL x p)).1 ps (ps.map (partL x))) = _
    rw [take_part x y hx p ht, if_neg (by simp), takes_parts x hx ht ps]; rfl
theorem line_join (w : List UInt8) (f : Nat → List UInt8) : ∀ ps : List Nat, w ++ ps.flatMap (fun p => 32 :: f p) = joinC 32 (w :: ps.map f)
  | [] => by simp [joinC]
  | p :: ps => by
    rw [List.map_cons]
    show _ = w ++ 32 :: joinC 32 (f p :: ps.map f)
    rw [← line_join (f p) f ps, List.flatMap_cons, List.cons_append]
/-- an operation is read from its line -/
theorem read_text (x : OpV) (hx : x.fits) (h1 : 1 ≤ x.k) (h2 : x.k ≤ 20) (ht : x.t = [] ∨ tagOk x.t = true) : readV (textL x) = (bareV x, 0) := by
  have hk : kindW (wordT x.k.toNat) = x.k.toNat := kindW_word ⟨x.k.toNat, by omega⟩ (by show x.k.toNat ≠ 0; omega)
  have hs : splitC 32 (textL x) = wordT x.k.toNat :: (partT x.k.toNat).map (partL x) := by
    unfold textL
    rw [if_pos ⟨h1, h2⟩, line_join, split_join (by simp)]
    intro a ha
    rcases List.mem_cons.1 ha with rfl | ha
    · exact wordT_plain _
    · obtain ⟨p, _, rfl⟩ := List.mem_map.1 ha
      exact part_plain x p ht
  unfold readV
  rw [hs]
  simp only [List.headD_cons, List.tail_cons, hk, List.length_cons, List.length_map]
  rw [if_neg (by omega), if_neg (by simp), takes_parts x hx ht]
  unfold bareV
  rw [if_pos ⟨h1, h2⟩, show ((x.k.toNat : Nat) : Int) = x.k by omega]

theorem takes_k : ∀ (ps : List Nat) (ss : List (List UInt8)) (y : OpV), (takesV y ps ss).2 = 0 → (takesV y ps ss).1.k = y.k
  | [], _, _, _ => rfl
  | _ :: _, [], _, _ => rfl
  | p :: ps, s :: ss, y, h => by
    have e : takesV y (p :: ps) (s :: ss) = if (takeV y p s).2 ≠ 0 then (zeroOp, (takeV y p s).2) else takesV (takeV y p s).1 ps ss := rfl
    rw [e] at h ⊢
    by_cases h0 : (takeV y p s).2 ≠ 0
    · rw [if_pos h0] at h; exact absurd h h0
    · rw [if_neg h0] at h ⊢
      rw [takes_k ps ss _ h]
      unfold takeV
      split <;> first | rfl | (split <;> rfl)
/-- which part a number stands for -/
def getP (x : OpV) (p : Nat) : Int ⊕ List UInt8 :=
  match p with
  | 0 => .inl x.i
  | 1 => .inl x.o
  | 2 => .inl x.n
  | 3 => .inr x.t
  | 4 => .inr x.d
  | _ => .inr x.b
theorem partL_get {x y : OpV} {p : Nat} (h : getP x p = getP y p) : partL x p = partL y p := by
  unfold getP partL at *
  split at h <;> simp_all
theorem take_other {y : OpV} {p q : Nat} {s : List UInt8} (hne : min p 5 ≠ min q 5) : getP (takeV y p s).1 q = getP y q := by
  unfold takeV getP
  match p, q with
  | 0, 0 => exact absurd rfl hne
  | 0, 1 => rfl
  | 0, 2 => rfl
  | 0, 3 => rfl
  | 0, 4 => rfl
  | 0, _ + 5 => rfl
  | 1, 0 => rfl
  | 1, 1 => exact absurd rfl hne
  | 1, 2 => rfl
  | 1, 3 => rfl
  | 1, 4 => rfl
  | 1, _ + 5 => rfl
  | 2, 0 => rfl
  | 2, 1 => rfl
  | 2, 2 => exact absurd rfl hne
  | 2, 3 => rfl
  | 2, 4 => rfl
  | 2, _ + 5 => rfl
  | 3, 0 => simp only; split <;> rfl
  | 3, 1 => simp only; split <;> rfl
  | 3, 2 => simp only; split <;> rfl
  | 3, 3 => exact absurd rfl hne
  | 3, 4 => simp only; split <;> rfl
  | 3, _ + 5 => simp only; split <;> rfl
  | 4, 0 => simp only; split <;> rfl
  | 4, 1 => simp only; split <;> rfl
  | 4, 2 => simp only; split <;> rfl
  | 4, 3 => simp only; split <;> rfl
  | 4, 4 => exact absurd rfl hne
  | 4, _ + 5 => simp only; split <;> rfl
  | _ + 5, 0 => simp only; split <;> rfl
  | _ + 5, 1 => simp only; split <;> rfl
  | _ + 5, 2 => simp only; split <;> rfl
  | _ + 5, 3 => simp only; split <;> rfl
  | _ + 5, 4 => simp only; split <;> rfl
  | a + 5, b + 5 => exact absurd (by omega) hne
theorem takes_other {q : Nat} : ∀ (ps : List Nat) (ss : List (List UInt8)) (y : OpV), (∀ p ∈ ps, min p 5 ≠ min q 5) → (takesV y ps ss).2 = 0 → getP (takesV y ps ss).1 q = getP y q
  | [], _, _, _, _ => rfl
  | _ :: _, [], _, _, _ => rfl
  | p :: ps, s :: ss, y, hq, h => by
    have e : takesV y (p :: ps) (s :: ss) = if (takeV y p s).2 ≠ 0 then (zeroOp, (takeV y p s).2) else takesV (takeV y p s).1 ps ss := rfl
    rw [e] at h ⊢
    by_cases h0 : (takeV y p s).2 ≠ 0
    · rw [if_pos h0] at h; exact absurd h h0
    · rw [if_neg h0] at h ⊢
      rw [takes_other ps ss _ (fun p hp => hq p (List.mem_cons_of_mem _ hp)) h, take_other (hq p (List.mem_cons_self ..))]
theorem tail_of_head {c : UInt8} {s : List UInt8} (h : s.head? = some c) : c :: s.tail = s := by
  cases s with
  | nil => cases h
  | cons b r => injection h with h; subst h; rfl
theorem part_take {y : OpV} {p : Nat} {s : List UInt8} (h : (takeV y p s).2 = 0) : partL (takeV y p s).1 p = s := by
  match p with
  | 0 => exact (itoa_num h).1
  | 1 => exact (itoa_num h).1
  | 2 => exact (itoa_num h).1
  | 3 =>
    have e : takeV y 3 s = if s.head? = some 61 ∧ (s.tail = [] ∨ tagOk s.tail = true) then ({ y with t := s.tail }, 0) else (y, 3) := rfl
    rw [e] at h ⊢
    by_cases hc : s.head? = some 61 ∧ (s.tail = [] ∨ tagOk s.tail = true)
    · rw [if_pos hc]; exact tail_of_head hc.1
    · rw [if_neg hc] at h; simp at h
  | 4 =>
    have e : takeV y 4 s = if digOk s then ({ y with d := digD s }, 0) else (y, 3) := rfl
    rw [e] at h ⊢
    by_cases hc : digOk s = true
    · rw [if_pos hc]; exact digT_digD hc
    · rw [if_neg hc] at h; simp at h
  | p + 5 =>
    have e : takeV y (p + 5) s = if s.head? = some 120 ∧ hexOk s.tail = true then ({ y with b := hexP s.tail }, 0) else (y, 3) := rfl
    rw [e] at h ⊢
    by_cases hc : s.head? = some 120 ∧ hexOk s.tail = true
    · rw [if_pos hc]
      show 120 :: hexL (hexP s.tail) = s
      rw [hexL_hexP _ hc.2]; exact tail_of_head hc.1
    · rw [if_neg hc] at h; simp at h
theorem takes_back : ∀ (ps : List Nat) (ss : List (List UInt8)) (y : OpV), ps.length = ss.length → (ps.map fun p => min p 5).Nodup → (takesV y ps ss).2 = 0 → ps.map (partL (takesV y ps ss).1) = ss
  | [], [], _, _, _, _ => rfl
  | [], _ :: _, _, h, _, _ => by simp at h
  | _ :: _, [], _, h, _, _ => by simp at h
  | p :: ps, s :: ss, y, hl, hn, h => by
    have e : takesV y (p :: ps) (s :: ss) = if (takeV y p s).2 ≠ 0 then (zeroOp, (takeV y p s).2) else takesV (takeV y p s).1 ps ss := rfl
    rw [e] at h ⊢
    rw [List.map_cons, List.nodup_cons] at hn
    by_cases h0 : (takeV y p s).2 ≠ 0
    · rw [if_pos h0] at h; exact absurd h h0
    · rw [if_neg h0] at h ⊢
      have h0' : (takeV y p s).2 = 0 := by simpa using h0
      rw [List.map_cons, takes_back ps ss _ (by simpa using hl) hn.2 h]
      have hg := takes_other (q := p) ps ss (takeV y p s).1 (fun q hq e => hn.1 (List.mem_map.2 ⟨q, hq, e⟩)) h
      rw [partL_get hg, part_take h0']
theorem partT_nodup : ∀ k : Fin 21, ((partT k.val).map fun p => min p 5).Nodup := by decide +kernel
/-- what was read has the line that was read -/
theorem text_read {s : List UInt8} (h : (readV s).2 = 0) : textL (readV s).1 = s ∧ 1 ≤ (readV s).1.k ∧ (readV s).1.k ≤ 20 := by
  unfold readV at h ⊢
  by_cases h0 : kindW ((splitC 32 s).headD []) = 0
  · rw [if_pos h0] at h; simp at h
  · rw [if_neg h0] at h ⊢
    by_cases h1 : (splitC 32 s).length ≠ (partT (kindW ((splitC 32 s).headD []))).length + 1
    · rw [if_pos h1] at h; simp at h
    · rw [if_neg h1] at h ⊢
      have hne := splitC_ne 32 s
      have hj := join_split 32 s
      generalize splitC 32 s = l at *
      cases l with
      | nil => exact absurd rfl hne
      | cons w ws =>
        simp only [List.headD_cons, List.tail_cons, List.length_cons] at h h0 h1 ⊢
        have hk := takes_k _ _ _ h
        have hle := kindW_le w
        have hkk : (kindOp (kindW w : Nat)).k = (kindW w : Nat) := rfl
        rw [hkk] at hk
        have hb := takes_back (partT (kindW w)) ws (kindOp (kindW w : Nat)) (by omega) (partT_nodup ⟨kindW w, by omega⟩) h
        generalize (takesV (kindOp (kindW w : Nat)) (partT (kindW w)) ws).1 = z at *
        refine ⟨?_, by omega, by omega⟩
        unfold textL
        rw [if_pos ⟨by omega, by omega⟩, hk, Int.toNat_natCast, wordT_kindW h0, line_join, hb]
        exact hj
theorem read_bad {s : List UInt8} (h : (readV s).2 ≠ 0) : (readV s).1 = zeroOp := by
  unfold readV at h ⊢
  by_cases h0 : kindW ((splitC 32 s).headD []) = 0
  · rw [if_pos h0]
  · rw [if_neg h0] at h ⊢
    by_cases h1 : (splitC 32 s).length ≠ (partT (kindW ((splitC 32 s).headD []))).length + 1
    · rw [if_pos h1]
    · rw [if_neg h1] at h ⊢
      have aux : ∀ (ps : List Nat) (ss : List (List UInt8)) (y : OpV), (takesV y ps ss).2 ≠ 0 → (takesV y ps ss).1 = zeroOp := by
        intro ps
        induction ps with
        | nil => intro ss y h; exact absurd rfl h
        | cons p ps ih =>
          intro ss y h
          cases ss with
          | nil => exact absurd rfl h
          | cons s ss =>
            have e : takesV y (p :: ps) (s :: ss) = if (takeV y p s).2 ≠ 0 then (zeroOp, (takeV y p s).2) else takesV (takeV y p s).1 ps ss := rfl
            rw [e] at h ⊢
            by_cases h0 : (takeV y p s).2 ≠ 0
            · rw [if_pos h0]
            · rw [if_neg h0] at h ⊢; exact ih ss _ h
      exact aux _ _ _ h
end Go.Proofs.YtjplfkcelkijfaaGreatDoor
