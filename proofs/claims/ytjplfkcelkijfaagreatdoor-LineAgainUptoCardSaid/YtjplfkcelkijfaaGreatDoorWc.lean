/- Operations as values, and how they lie. No condition. -/
import Derived.Test.YtjplfkcelkijfaaGreatDoorWb
namespace Go.Proofs.YtjplfkcelkijfaaGreatDoor
open Go.RowKit

/-- the cells of an operation whose data are the slice v -/
def opV (x : OpV) (v : Value) : List Value := .int .i64 x.k :: .int .i64 x.i :: .int .i64 x.o :: .int .i64 x.n :: .string ⟨x.t.toArray⟩ :: (digV x.d ++ [v])
/-- an operation lies in a block -/
structure OpAt (w : World) (g : Nat) (x : OpV) (v : Value) : Prop where
  k : w.cell? ⟨g, 0, none⟩ = some (.int .i64 x.k)
  i : w.cell? ⟨g, 1, none⟩ = some (.int .i64 x.i)
  o : w.cell? ⟨g, 2, none⟩ = some (.int .i64 x.o)
  n : w.cell? ⟨g, 3, none⟩ = some (.int .i64 x.n)
  t : w.cell? ⟨g, 4, none⟩ = some (.string ⟨x.t.toArray⟩)
  d : w.rangeAt g 5 (digV x.d)
  dat : w.cell? ⟨g, 37, none⟩ = some v
  lt : g < w.heap.size
theorem opAt_of {w : World} {b : Nat} {x : OpV} {v : Value} (h : w.rangeAt b 0 (opV x v)) (hd : x.d.length = 32) : OpAt w b x v := by
  have g : ∀ (j : Nat) u, (opV x v)[j]? = some u → w.cell? ⟨b, j, none⟩ = some u := fun j u hj => by have := h j u hj; rwa [Nat.zero_add] at this
  have h37 : (opV x v)[37]? = some v := by
    show (digV x.d ++ [v])[32]? = some v
    rw [List.getElem?_append_right (by rw [digV_length, hd]; exact Nat.le_refl _), digV_length, hd]; rfl
  refine ⟨g 0 _ rfl, g 1 _ rfl, g 2 _ rfl, g 3 _ rfl, g 4 _ rfl, fun j u hj => ?_, g 37 _ h37, World.block_lt_of_cell? _ _ (g 0 _ rfl)⟩
  have h5 : (opV x v)[5 + j]? = some u := by
    rw [Nat.add_comm]
    show (digV x.d ++ [v])[j]? = some u
    rw [List.getElem?_append_left (List.getElem?_eq_some_iff.1 hj).1]; exact hj
  exact g _ _ h5
theorem opAt_new (w : World) (x : OpV) (v : Value) (hd : x.d.length = 32) : OpAt (w.alloc (.cells (opV x v).toArray 26)) w.heap.size x v := opAt_of (rangeAt_new w (opV x v) 26) hd
theorem OpAt.below {w w' : World} {b : Nat} {x : OpV} {v : Value} (h : OpAt w b x v) (hb : Below w.heap.size w w') : OpAt w' b x v :=
  have c : ∀ (j : Nat) u, w.cell? ⟨b, j, none⟩ = some u → w'.cell? ⟨b, j, none⟩ = some u := fun j u hj => (hb.cell (p := ⟨b, j, none⟩) h.lt).trans hj
  ⟨c _ _ h.k, c _ _ h.i, c _ _ h.o, c _ _ h.n, c _ _ h.t, rangeAt_below h.d hb, c _ _ h.dat, Nat.lt_of_lt_of_le h.lt hb.size⟩

theorem letT_le : ∀ k : Fin 21, ∀ p ∈ partT k.val, p ≤ 5 := by decide +kernel
theorem partI_le (k : Int) : ∀ p ∈ partI k, p ≤ 5 := by
  unfold partI
  split
  · rename_i h
    exact letT_le ⟨k.toNat, by omega⟩
  · intro p hp; cases hp
theorem partI_len : ∀ k : Fin 21, (partT k.val).length ≤ 3 := by decide +kernel
theorem partI_length (k : Int) : (partI k).length ≤ 3 := by
  unfold partI
  split
  · rename_i h
    exact partI_len ⟨k.toNat, by omega⟩
  · simp
theorem wordI_len : ∀ k : Fin 21, (wordT k.val).length ≤ 10 := by decide +kernel
theorem wordI_length (k : Int) : (wordI k).length ≤ 10 := by
  unfold wordI
  split
  · rename_i h
    exact wordI_len ⟨k.toNat, by omega⟩
  · simp
theorem textL_eq (x : OpV) : textL x = wordI x.k ++ (partI x.k).flatMap fun p => 32 :: partL x p := by
  unfold textL wordI partI
  split <;> simp
theorem itoa_len (v : Int) (h0 : -9223372036854775808 ≤ v) (h1 : v ≤ 9223372036854775807) : (Lib.itoa v).length ≤ 21 := by
  have aux : ∀ u : Nat, u < 100000000000000000000 → (Lib.decDigits u).length ≤ 20 := fun u hu => by
    by_cases h : u = 0
    · subst h; rw [decD_lo (by omega)]; simp
    · have := decP_len u hu; rwa [decP, if_neg h] at this
  unfold Lib.itoa
  split
  · have := aux v.natAbs (by omega)
    simp; omega
  · have := aux v.toNat (by omega)
    omega
theorem partL_len (x : OpV) (p : Nat) (hx : x.fits) (ht : x.t.length ≤ 1048576) (hb : x.b.length ≤ 1048576) : (partL x p).length ≤ 2097160 := by
  obtain ⟨_, hi, ho, hn, hd⟩ := hx
  unfold partL
  split
  · have := itoa_len x.i hi.1 hi.2; omega
  · have := itoa_len x.o ho.1 ho.2; omega
  · have := itoa_len x.n hn.1 hn.2; omega
  · simp; omega
  · rw [digT_length, hd]; omega
  · rw [List.length_cons, hexL_length]; omega
/-- the line so far: the word, and the first j parts -/
def soFar (x : OpV) (j : Nat) : List UInt8 := wordI x.k ++ ((partI x.k).take j).flatMap fun p => 32 :: partL x p
theorem soFar_zero (x : OpV) : soFar x 0 = wordI x.k := by simp [soFar]
theorem soFar_all (x : OpV) : soFar x (partI x.k).length = textL x := by unfold soFar; rw [List.take_length, textL_eq]
theorem soFar_succ (x : OpV) (j : Nat) (p : Nat) (h : (partI x.k)[j]? = some p) : soFar x (j + 1) = soFar x j ++ 32 :: partL x p := by
  unfold soFar
  rw [List.take_add_one, h, List.flatMap_append, ← List.append_assoc]; simp
theorem soFar_len (x : OpV) (j : Nat) (hx : x.fits) (ht : x.t.length ≤ 1048576) (hb : x.b.length ≤ 1048576) : (soFar x j).length ≤ 10 + 3 * 2097161 := by
  unfold soFar
  rw [List.length_append]
  have h1 := wordI_length x.k
  have aux : ∀ l : List Nat, (l.flatMap fun p => 32 :: partL x p).length ≤ l.length * 2097161 := by
    intro l
    induction l with
    | nil => simp
    | cons p l ih =>
      rw [List.flatMap_cons, List.length_append, List.length_cons]
      have := partL_len x p hx ht hb
      have e : (p :: l).length * 2097161 = l.length * 2097161 + 2097161 := by rw [List.length_cons, Nat.succ_mul]
      omega
  have h2 := aux ((partI x.k).take j)
  have h3 : ((partI x.k).take j).length ≤ 3 := Nat.le_trans (List.length_take_le' _ _) (partI_length x.k)
  have h4 : ((partI x.k).take j).length * 2097161 ≤ 3 * 2097161 := Nat.mul_le_mul_right _ h3
  omega
end Go.Proofs.YtjplfkcelkijfaaGreatDoor
