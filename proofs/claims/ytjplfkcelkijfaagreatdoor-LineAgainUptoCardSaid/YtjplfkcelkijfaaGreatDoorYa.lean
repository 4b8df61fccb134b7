/- Replies' lines: the plain law: which reply a line is, that it has that line, and that a reply is read from its line. No condition. -/
import Derived.Test.YtjplfkcelkijfaaGreatDoorVj
namespace Go.Proofs.YtjplfkcelkijfaaGreatDoor
open Go.RowKit

/-- what stands ahead of a reply's parts -/
def keysL : List (List UInt8) := [[105, 100], [107, 105, 110, 100], [110], [100, 105, 103, 101, 115, 116], [100, 97, 116, 97], [110, 97, 109, 101, 115]]
def keyL (k : Nat) : List UInt8 := keysL.getD k []
def keyIx (key : List UInt8) : Nat := keysL.findIdx (· == key)
/-- a number that isn't 0 -/
def countV (s : List UInt8) : Int × Int := if (numV s).2 = 0 ∧ (numV s).1 = 0 then (0, 3) else numV s
/-- a part taken into a reply -/
def sayV (r : RepV) (k : Nat) (v : List UInt8) : RepV × Int :=
  match k with
  | 0 => ({ r with i := (countV v).1 }, (countV v).2)
  | 1 => ({ r with k := (countV v).1 }, (countV v).2)
  | 2 => ({ r with n := (countV v).1 }, (countV v).2)
  | 3 => if digOk v = true ∧ digD v ≠ zeroD then ({ r with d := digD v }, 0) else (r, 3)
  | 4 => if v.head? = some 120 ∧ hexOk v.tail = true ∧ v.tail ≠ [] then ({ r with b := hexP v.tail }, 0) else (r, 3)
  | _ => if (splitC 44 v).all tagOk = true then ({ r with l := splitC 44 v }, 0) else (r, 3)
/-- a word at its first = -/
def cutE : List UInt8 → Option (List UInt8 × List UInt8)
  | [] => none
  | c :: t => if c = 61 then some ([], t) else match cutE t with | none => none | some (a, b) => some (c :: a, b)
def saysV (r : RepV) (n : Nat) : List (List UInt8) → RepV × Int
  | [] => (r, 0)
  | w :: ws => match cutE w with
    | none => (zeroRep, 3)
    | some (key, v) => if keyIx key < 6 ∧ n ≤ keyIx key then (if (sayV r (keyIx key) v).2 ≠ 0 then (zeroRep, (sayV r (keyIx key) v).2) else saysV (sayV r (keyIx key) v).1 (keyIx key + 1) ws) else (zeroRep, 3)
def errW : List UInt8 := [101, 114, 114, 111, 114]
def okW : List UInt8 := [111, 107]
def errRep (n : Int) : RepV := ⟨n, 0, 0, 0, zeroD, [], []⟩
def failedV : List (List UInt8) → RepV × Int
  | [w] => (errRep (countV w).1, (countV w).2)
  | _ => (zeroRep, 3)
/-- which reply words are -/
def answersV : List (List UInt8) → RepV × Int
  | [] => (zeroRep, 3)
  | x :: ws => if x = errW then failedV ws else if x = okW then saysV zeroRep 0 ws else (zeroRep, 3)
def answerV (s : List UInt8) : RepV × Int := answersV (splitC 32 s)

theorem cutE_join : ∀ {w key v : List UInt8}, cutE w = some (key, v) → w = key ++ 61 :: v
  | [], _, _, h => by cases h
  | c :: t, key, v, h => by
    unfold cutE at h
    by_cases hc : c = 61
    · rw [if_pos hc] at h
      injection h with h
      injection h with h1 h2
      subst h1 h2 hc; rfl
    · rw [if_neg hc] at h
      cases ht : cutE t with
      | none => rw [ht] at h; cases h
      | some p =>
        obtain ⟨a, b⟩ := p
        rw [ht] at h
        injection h with h
        injection h with h1 h2
        subst h1 h2
        rw [cutE_join ht]; rfl
theorem cutE_key {v : List UInt8} : ∀ {key : List UInt8}, (∀ c ∈ key, c ≠ 61) → cutE (key ++ 61 :: v) = some (key, v)
  | [], _ => by unfold cutE; rfl
  | c :: t, h => by
    rw [List.cons_append]
    unfold cutE
    rw [if_neg (h c (List.mem_cons_self ..)), cutE_key fun x hx => h x (List.mem_cons_of_mem _ hx)]
theorem keyIx_key : ∀ k : Fin 6, keyIx (keyL k.val) = k.val := by decide +kernel
theorem keys_plain : ∀ w ∈ keysL, ∀ x ∈ w, x ≠ 61 ∧ x ≠ 32 := by decide +kernel
theorem keyL_mem (k : Nat) (h : k < 6) : keyL k ∈ keysL := by
  unfold keyL
  rw [List.getD_eq_getElem?_getD, List.getElem?_eq_getElem (show k < keysL.length by exact h)]
  exact List.getElem_mem _
theorem keyL_keyIx {key : List UInt8} (h : keyIx key < 6) : keyL (keyIx key) = key := by
  unfold keyIx at h ⊢
  have h1 : (keysL.findIdx (· == key)) < keysL.length := h
  have := List.findIdx_getElem (w := h1)
  unfold keyL
  rw [List.getD_eq_getElem?_getD, List.getElem?_eq_getElem h1]
  simpa using this
theorem count_num {s : List UInt8} (h : (countV s).2 = 0) : (countV s).1 ≠ 0 ∧ Lib.itoa (countV s).1 = s ∧ in64 (countV s).1 := by
  unfold countV at h ⊢
  by_cases h0 : (numV s).2 = 0 ∧ (numV s).1 = 0
  · rw [if_pos h0] at h; simp at h
  · rw [if_neg h0] at h ⊢
    exact ⟨fun e => h0 ⟨h, e⟩, (itoa_num h).1, numV_in s⟩
theorem count_bad {s : List UInt8} (h : (countV s).2 ≠ 0) : (countV s).1 = 0 := by
  unfold countV at h ⊢
  by_cases h0 : (numV s).2 = 0 ∧ (numV s).1 = 0
  · rw [if_pos h0]
  · rw [if_neg h0] at h ⊢
    unfold numV at h ⊢
    split
    · rfl
    · split
      · split
        · rename_i h1 h2 h3; rw [if_neg h1, if_pos h2, if_pos h3] at h; simp at h
        · rfl
      · split
        · rename_i h1 h2 h3; rw [if_neg h1, if_neg h2, if_pos h3] at h; simp at h
        · rfl
theorem count_itoa {v : Int} (h : in64 v) (h0 : v ≠ 0) : countV (Lib.itoa v) = (v, 0) := by
  unfold countV
  rw [num_itoa h.1 h.2, if_neg (fun e => h0 e.2)]
theorem hexP_ne {l : List UInt8} (h : hexOk l = true) (hl : l ≠ []) : hexP l ≠ [] := by
  intro e
  have := hexL_hexP l h
  rw [e] at this
  exact hl this.symm
/-- the part that was taken in is the word; the others are as they were -/
theorem say_piece {r : RepV} {k : Nat} {v : List UInt8} (hk : k < 6) (h : (sayV r k v).2 = 0) : pieceL (sayV r k v).1 k = 32 :: (keyL k ++ 61 :: v) ∧ ∀ j, j ≠ k → pieceL (sayV r k v).1 j = pieceL r j := by
  have hkc : k = 0 ∨ k = 1 ∨ k = 2 ∨ k = 3 ∨ k = 4 ∨ k = 5 := by omega
  rcases hkc with rfl | rfl | rfl | rfl | rfl | rfl
  · obtain ⟨h1, h2, _⟩ := count_num h
    refine ⟨?_, fun j hj => ?_⟩
    · show tellL ((countV v).1 != 0) [105, 100] (Lib.itoa (countV v).1) = _
      rw [h2, bne_iff_ne.2 h1]; rfl
    · match j, hj with
      | 1, _ => rfl
      | 2, _ => rfl
      | 3, _ => rfl
      | 4, _ => rfl
      | 5, _ => rfl
      | j + 6, _ => rfl
  · obtain ⟨h1, h2, _⟩ := count_num h
    refine ⟨?_, fun j hj => ?_⟩
    · show tellL ((countV v).1 != 0) [107, 105, 110, 100] (Lib.itoa (countV v).1) = _
      rw [h2, bne_iff_ne.2 h1]; rfl
    · match j, hj with
      | 0, _ => rfl
      | 2, _ => rfl
      | 3, _ => rfl
      | 4, _ => rfl
      | 5, _ => rfl
      | j + 6, _ => rfl
  · obtain ⟨h1, h2, _⟩ := count_num h
    refine ⟨?_, fun j hj => ?_⟩
    · show tellL ((countV v).1 != 0) [110] (Lib.itoa (countV v).1) = _
      rw [h2, bne_iff_ne.2 h1]; rfl
    · match j, hj with
      | 0, _ => rfl
      | 1, _ => rfl
      | 3, _ => rfl
      | 4, _ => rfl
      | 5, _ => rfl
      | j + 6, _ => rfl
  · have e : sayV r 3 v = if digOk v = true ∧ digD v ≠ zeroD then ({ r with d := digD v }, 0) else (r, 3) := rfl
    rw [e] at h ⊢
    by_cases hc : digOk v = true ∧ digD v ≠ zeroD
    · rw [if_pos hc]
      refine ⟨?_, fun j hj => ?_⟩
      · show tellL (!(digD v == zeroD)) [100, 105, 103, 101, 115, 116] (digT (digD v)) = _
        rw [digT_digD hc.1, show (digD v == zeroD) = false from beq_eq_false_iff_ne.2 hc.2]; rfl
      · match j, hj with
        | 0, _ => rfl
        | 1, _ => rfl
        | 2, _ => rfl
        | 4, _ => rfl
        | 5, _ => rfl
        | j + 6, _ => rfl
    · rw [if_neg hc] at h; simp at h
  · have e : sayV r 4 v = if v.head? = some 120 ∧ hexOk v.tail = true ∧ v.tail ≠ [] then ({ r with b := hexP v.tail }, 0) else (r, 3) := rfl
    rw [e] at h ⊢
    by_cases hc : v.head? = some 120 ∧ hexOk v.tail = true ∧ v.tail ≠ []
    · rw [if_pos hc]
      refine ⟨?_, fun j hj => ?_⟩
      · show tellL (someB (hexP v.tail).length) [100, 97, 116, 97] (120 :: hexL (hexP v.tail)) = _
        have hne := hexP_ne hc.2.1 hc.2.2
        have : someB (hexP v.tail).length = true := by unfold someB; exact decide_eq_true (by have := List.length_pos_iff.2 hne; omega)
        rw [this, hexL_hexP _ hc.2.1, tail_of_head hc.1]; rfl
      · match j, hj with
        | 0, _ => rfl
        | 1, _ => rfl
        | 2, _ => rfl
        | 3, _ => rfl
        | 5, _ => rfl
        | j + 6, _ => rfl
    · rw [if_neg hc] at h; simp at h
  · have e : sayV r 5 v = if (splitC 44 v).all tagOk = true then ({ r with l := splitC 44 v }, 0) else (r, 3) := rfl
    rw [e] at h ⊢
    by_cases hc : (splitC 44 v).all tagOk = true
    · rw [if_pos hc]
      refine ⟨?_, fun j hj => ?_⟩
      · show tellL (someB (splitC 44 v).length) [110, 97, 109, 101, 115] (joinC 44 (splitC 44 v)) = _
        have : someB (splitC 44 v).length = true := by unfold someB; exact decide_eq_true (by have := List.length_pos_iff.2 (splitC_ne 44 v); omega)
        rw [this, join_split]; rfl
      · match j, hj with
        | 0, _ => rfl
        | 1, _ => rfl
        | 2, _ => rfl
        | 3, _ => rfl
        | 4, _ => rfl
        | j + 6, _ => rfl
    · rw [if_neg hc] at h; simp at h
theorem say_e {r : RepV} {k : Nat} {v : List UInt8} : (sayV r k v).1.e = r.e := by
  unfold sayV; split <;> first | rfl | (split <;> rfl)
/-- nothing from the n-th part on -/
def Bare6 (r : RepV) (n : Nat) : Prop := ∀ j, n ≤ j → pieceL r j = []
theorem repTo_bare {r : RepV} {n : Nat} (h : Bare6 r n) : ∀ d, repTo r (n + d) = repTo r n
  | 0 => rfl
  | d + 1 => by
    show repTo r (n + d) ++ pieceL r (n + d) = _
    rw [h _ (by omega), List.append_nil, repTo_bare h d]
theorem repTo_same {r r' : RepV} : ∀ {n : Nat}, (∀ j, j < n → pieceL r' j = pieceL r j) → repTo r' n = repTo r n
  | 0, _ => rfl
  | n + 1, h => by
    show repTo r' n ++ pieceL r' n = repTo r n ++ pieceL r n
    rw [h n (by omega), repTo_same fun j hj => h j (by omega)]
theorem says_line : ∀ (ws : List (List UInt8)) (r : RepV) (n : Nat), n ≤ 6 → Bare6 r n → (saysV r n ws).2 = 0 → repTo (saysV r n ws).1 6 = repTo r n ++ ws.flatMap (fun w => 32 :: w) ∧ (saysV r n ws).1.e = r.e
  | [], r, n, hn, hb, _ => by
    refine ⟨?_, rfl⟩
    show repTo r 6 = _
    have := repTo_bare hb (6 - n)
    rw [show n + (6 - n) = 6 by omega] at this
    rw [this]; simp
  | w :: ws, r, n, hn, hb, h => by
    unfold saysV at h ⊢
    cases hc : cutE w with
    | none => rw [hc] at h; simp at h
    | some p =>
      obtain ⟨key, v⟩ := p
      rw [hc] at h
      simp only at h ⊢
      by_cases hk : keyIx key < 6 ∧ n ≤ keyIx key
      · rw [if_pos hk] at h ⊢
        by_cases he : (sayV r (keyIx key) v).2 ≠ 0
        · rw [if_pos he] at h; exact absurd h he
        · rw [if_neg he] at h ⊢
          have he' : (sayV r (keyIx key) v).2 = 0 := by simpa using he
          obtain ⟨p1, p2⟩ := say_piece hk.1 he'
          have hb' : Bare6 (sayV r (keyIx key) v).1 (keyIx key + 1) := fun j hj => by rw [p2 j (by omega)]; exact hb j (by omega)
          obtain ⟨i1, i2⟩ := says_line ws _ _ (by omega) hb' h
          refine ⟨?_, by rw [i2, say_e]⟩
          rw [i1, List.flatMap_cons]
          show (repTo (sayV r (keyIx key) v).1 (keyIx key) ++ pieceL (sayV r (keyIx key) v).1 (keyIx key)) ++ _ = _
          rw [p1, keyL_keyIx hk.1, ← cutE_join hc, repTo_same (r := r) (fun j hj => p2 j (by omega))]
          have := repTo_bare hb (keyIx key - n)
          rw [show n + (keyIx key - n) = keyIx key by omega] at this
          rw [this, List.append_assoc]
      · rw [if_neg hk] at h; simp at h
theorem bare_zero : Bare6 zeroRep 0 := fun j _ => by
  match j with
  | 0 => rfl
  | 1 => rfl
  | 2 => rfl
  | 3 => rfl
  | 4 => rfl
  | 5 => rfl
  | j + 6 => rfl
theorem line_flat : ∀ (x : List UInt8) (ws : List (List UInt8)), x ++ ws.flatMap (fun w => 32 :: w) = joinC 32 (x :: ws)
  | x, [] => by simp [joinC]
  | x, w :: ws => by
    rw [List.flatMap_cons]
    show _ = x ++ 32 :: joinC 32 (w :: ws)
    rw [← line_flat w ws]; simp
theorem answersV_cons (x : List UInt8) (ws : List (List UInt8)) : answersV (x :: ws) = if x = errW then failedV ws else if x = okW then saysV zeroRep 0 ws else (zeroRep, 3) := rfl
/-- what is read has the line that was read -/
theorem reply_answer {s : List UInt8} (h : (answerV s).2 = 0) : replyL (answerV s).1 = s := by
  have hj := join_split 32 s
  have hne := splitC_ne 32 s
  unfold answerV at h ⊢
  generalize splitC 32 s = L at *
  cases L with
  | nil => exact absurd rfl hne
  | cons x ws =>
    rw [answersV_cons] at h ⊢
    by_cases h1 : x = errW
    · rw [if_pos h1] at h ⊢
      match ws, h, hj with
      | [w], h, hj =>
        obtain ⟨c1, c2, _⟩ := count_num h
        unfold replyL
        rw [if_pos (show (failedV [w]).1.e ≠ 0 from c1)]
        show errW ++ [32] ++ Lib.itoa (countV w).1 = s
        rw [c2, ← hj, h1]; simp [joinC]
      | [], h, _ => exact absurd h (by decide)
      | _ :: _ :: _, h, _ => exact absurd h (by show (3 : Int) ≠ 0; decide)
    · rw [if_neg h1] at h ⊢
      by_cases h2 : x = okW
      · rw [if_pos h2] at h ⊢
        obtain ⟨i1, i2⟩ := says_line ws zeroRep 0 (by omega) bare_zero h
        rw [repTo_line _ i2, i1, ← hj, h2, ← line_flat]; rfl
      · rw [if_neg h2] at h; exact absurd h (by show (3 : Int) ≠ 0; decide)
theorem says_bad : ∀ (ws : List (List UInt8)) (r : RepV) (n : Nat), (saysV r n ws).2 ≠ 0 → (saysV r n ws).1 = zeroRep
  | [], r, n, h => absurd rfl h
  | w :: ws, r, n, h => by
    unfold saysV at h ⊢
    cases hc : cutE w with
    | none => rfl
    | some p =>
      obtain ⟨key, v⟩ := p
      rw [hc] at h
      simp only at h ⊢
      split
      · rename_i hk
        rw [if_pos hk] at h
        split
        · rfl
        · rename_i he
          rw [if_neg he] at h
          exact says_bad ws _ _ h
      · rfl
theorem failed_bad : ∀ (ws : List (List UInt8)), (failedV ws).2 ≠ 0 → (failedV ws).1 = zeroRep
  | [w], h => by
    show errRep (countV w).1 = zeroRep
    rw [count_bad h]; rfl
  | [], _ => rfl
  | _ :: _ :: _, _ => rfl
theorem answers_bad : ∀ (L : List (List UInt8)), (answersV L).2 ≠ 0 → (answersV L).1 = zeroRep
  | [], _ => rfl
  | x :: ws, h => by
    rw [answersV_cons] at h ⊢
    by_cases h1 : x = errW
    · rw [if_pos h1] at h ⊢; exact failed_bad ws h
    · rw [if_neg h1] at h ⊢
      by_cases h2 : x = okW
      · rw [if_pos h2] at h ⊢; exact says_bad ws _ _ h
      · rw [if_neg h2]
theorem answer_bad {s : List UInt8} (h : (answerV s).2 ≠ 0) : (answerV s).1 = zeroRep := answers_bad _ h
end Go.Proofs.YtjplfkcelkijfaaGreatDoor
/- line.count, line.keys, line.list. Condition: words of at most 8388608 bytes; what lies in variables. -/
namespace Go.Proofs.YtjplfkcelkijfaaGreatDoor
open Go.RowKit

set_option maxHeartbeats 2000000 in
set_option maxRecDepth 100000 in
theorem count_calls (s : ByteArray) (w : World) (hs : s.size ≤ 8388608) (hE : Env w) :
    Calls Tryz.prog 57 #[.string s] w fun e w' => e = .returned (.tuple #[.int .i64 (countV s.data.toList).1, .int .i64 (countV s.data.toList).2]) ∧ Below w.heap.size w w' := by
  have HN := Lib.hid (number_calls s w hs hE)
  have hcv : Hid (countV s.data.toList = if (numV s.data.toList).2 = 0 ∧ (numV s.data.toList).1 = 0 then (0, 3) else ((numV s.data.toList).1, (numV s.data.toList).2)) := rfl
  clear hs hE
  generalize (numV s.data.toList).1 = n at *
  generalize (numV s.data.toList).2 = e at *
  by_cases he : e = 0
  · by_cases hn : n = 0
    · have q1 : ((e : Int) == 0) = true := by rw [he]; rfl
      have q2 : ((n : Int) == 0) = true := by rw [hn]; rfl
      have HV : Hid (countV s.data.toList = (0, 3)) := by show _ = _; rw [hcv.out, if_pos ⟨he, hn⟩]
      clear he hn hcv
      go_enter Tryz.func57, Tryz.ntmps57
      go_wp2_with (first | (go_at_call 45; refine HN.out.mono ?_; rintro e1 w1 ⟨rfl, hb1⟩))
      go_ret2
      exact ⟨by rw [HV.out]; rfl, hb1⟩
    · have q1 : ((e : Int) == 0) = true := by rw [he]; rfl
      have q2 : ((n : Int) == 0) = false := by rw [beq_eq_false_iff_ne]; exact hn
      have HV : Hid (countV s.data.toList = (n, e)) := by show _ = _; rw [hcv.out, if_neg (fun h => hn h.2)]
      clear he hn hcv
      go_enter Tryz.func57, Tryz.ntmps57
      go_wp2_with (first | (go_at_call 45; refine HN.out.mono ?_; rintro e1 w1 ⟨rfl, hb1⟩))
      go_ret2
      exact ⟨by rw [HV.out]; rfl, hb1⟩
  · have q1 : ((e : Int) == 0) = false := by rw [beq_eq_false_iff_ne]; exact he
    have HV : Hid (countV s.data.toList = (n, e)) := by show _ = _; rw [hcv.out, if_neg (fun h => he h.1)]
    clear he hcv
    go_enter Tryz.func57, Tryz.ntmps57
    go_wp2_with (first | (go_at_call 45; refine HN.out.mono ?_; rintro e1 w1 ⟨rfl, hb1⟩))
    go_ret2
    exact ⟨by rw [HV.out]; rfl, hb1⟩
def keysV : Array Value := (keysL.map fun k => Value.string ⟨k.toArray⟩).toArray
set_option maxRecDepth 100000 in
theorem index_keys (k : Nat) (hk : k < 6) (W : World) : (Instr.index 76 (.agg keysV) (.int .i64 k)).run Tryz.prog W = .ok (.string ⟨(keyL k).toArray⟩) W := by
  have hkc : k = 0 ∨ k = 1 ∨ k = 2 ∨ k = 3 ∨ k = 4 ∨ k = 5 := by omega
  rcases hkc with rfl | rfl | rfl | rfl | rfl | rfl
  all_goals (show (Instr.index 76 (.agg keysV) _).run Tryz.prog W = _; kernel_rfl)
theorem u76 : Tryz.prog.underlying 76 = some (.array 6 9) := by kernel_rfl
set_option maxHeartbeats 2000000 in
set_option maxRecDepth 100000 in
theorem keys_calls (w : World) : Calls Tryz.prog 38 #[] w fun e w' => e = .returned (.agg keysV) ∧ Below w.heap.size w w' := by
  go_enter Tryz.func38, Tryz.ntmps38
  go_wp2_with fail
  refine bodyPost_ret_by (results_cell_row rfl _ _ w.heap.size 76 keysV (0, 0) _ rfl (World.alloc_heap_new _ _) u76 rfl (by kernel_rfl)) rfl ?_
  exact ⟨rfl, (Below.refl _ _).alloc (Nat.le_refl _) _⟩
/-- the names that a word is -/
def listE (s : List UInt8) : Int := if (splitC 44 s).all tagOk then 0 else 3
def listV (s : List UInt8) : List (List UInt8) := if (splitC 44 s).all tagOk then splitC 44 s else []
set_option maxHeartbeats 2000000 in
set_option maxRecDepth 100000 in
theorem list_calls (s : ByteArray) (w : World) (hs : s.size ≤ 8388608) (hE : LEnv w) :
    Calls Tryz.prog 60 #[.string s] w fun e w' => ∃ A cap, e = .returned (.tuple #[.slice A (listV s.data.toList).length cap, .int .i64 (listE s.data.toList)]) ∧ StrsIn w' (.slice A (listV s.data.toList).length cap) (listV s.data.toList) ∧ (listV s.data.toList).length ≤ cap ∧ Below w.heap.size w w' := by
  obtain ⟨_, m, hm⟩ := hE
  have HW := Lib.hid (words_calls s 44 m w hs hm)
  have hwl : Hid (∀ x ∈ splitC 44 s.data.toList, x.length ≤ 8388608) := fun x hx => by
    have := split_le 44 _ x hx
    simp at this; omega
  have hall : Hid (∀ b, (splitC 44 s.data.toList).all tagOk = b → listV s.data.toList = (if b then splitC 44 s.data.toList else []) ∧ listE s.data.toList = if b then 0 else 3) := fun b hb => by unfold listV listE; rw [hb]; exact ⟨rfl, rfl⟩
  have hlen : (splitC 44 s.data.toList).length ≤ 8388609 := by
    have aux : ∀ l : List UInt8, (splitC 44 l).length ≤ l.length + 1 := by
      intro l
      induction l with
      | nil => simp [splitC]
      | cons y t ih =>
        have e : splitC 44 (y :: t) = if y = 44 then [] :: splitC 44 t else (y :: (splitC 44 t).headD []) :: (splitC 44 t).tail := rfl
        rw [e]; split
        · simp; omega
        · simp; omega
    have := aux s.data.toList
    simp at this; omega
  generalize listV s.data.toList = LV at *
  generalize listE s.data.toList = LE at *
  generalize splitC 44 s.data.toList = L at *
  have hli : (L.length : Int) ≤ 8388609 := by omega
  clear hlen hm hs
  go_enter Tryz.func60, Tryz.ntmps60
  go_wp2_with fail
  refine HW.out.mono ?_
  rintro e w1 ⟨a, rfl, hst, hb1⟩
  have HST := Lib.hid hst
  have HB1 := Lib.hid hb1
  clear hst hb1 HW
  go_wp2_with fail
  go_loopw [11] (fun c wr => ∃ k : Nat, c = .int .i64 k ∧ (k : Int) ≤ L.length ∧ Hid (∀ j x, j < k → L[j]? = some x → tagOk x = true) ∧ Hid (Below w1.heap.size w1 wr)) (fun c _ => L.length - (intOf c).toNat)
  case atStart => exact ⟨0, rfl, by omega, fun j x h => by omega, Below.refl _ _⟩
  case round =>
    obtain ⟨k, rfl, hk, hto, hb⟩ := hrel
    have hsz := hb.out.size
    by_cases hlt : (k : Int) < L.length
    · obtain ⟨x, hx⟩ : ∃ x, L[k]? = some x := ⟨_, List.getElem?_eq_getElem (by omega)⟩
      obtain ⟨a', c', ea, hcl⟩ := HST.out.below hb.out
      obtain ⟨g, o, rfl, hcx⟩ := hcl k x hx
      obtain rfl : a = ⟨g, o, none⟩ := by
        injection ea with ea _ _
        injection ea
      have hxl : x.length ≤ 8388608 := hwl.out x (List.mem_of_getElem? hx)
      have HX := Lib.hid hx
      have HTG := Lib.hid (tag_calls ⟨x.toArray⟩ wr)
      rw [show (⟨x.toArray⟩ : ByteArray).data.toList = x by simp] at HTG
      have hsx : (⟨x.toArray⟩ : ByteArray).size ≤ 140737488351232 := by show x.toArray.size ≤ _; simp; omega
      cases hok : tagOk x with
      | true =>
        have HT := Lib.hid (HTG.out hsx)
        rw [hok] at HT
        have HTO : Hid (∀ j x, j < k + 1 → L[j]? = some x → tagOk x = true) := fun j y hj hy => by
          by_cases e : j = k
          · subst e
            rw [HX.out] at hy
            injection hy with hy
            subst hy; exact hok
          · exact hto.out j y (by omega) hy
        clear ea hcl hx hxl hsx hok hto HTG
        go_wp2_with (first | (go_at_call 68; refine HT.out.mono ?_; rintro e w2 ⟨rfl, rfl⟩))
        go_roundw
        case rel => exact ⟨k + 1, by go_num, by omega, HTO, hb⟩
        case measure => simp [intOf]; omega
      | false =>
        have HT := Lib.hid (HTG.out hsx)
        rw [hok] at HT
        have HA : Hid (LE = 3 ∧ LV = []) := by
          have h1 : L.all tagOk = false := by
            rw [Bool.eq_false_iff]; intro h
            have := List.all_eq_true.1 h x (List.mem_of_getElem? HX.out)
            rw [hok] at this; cases this
          exact ⟨(hall.out _ h1).2, (hall.out _ h1).1⟩
        clear ea hcl hx hxl hsx hok hto HTG
        go_wp2_with (first | (go_at_call 68; refine HT.out.mono ?_; rintro e w2 ⟨rfl, rfl⟩))
        go_ret2
        refine ⟨none, 0, ?_, ?_, ?_, HB1.out.trans (hb.out.mono HB1.out.size)⟩
        · rw [HA.out.1, HA.out.2]; rfl
        · rw [HA.out.2]; exact ⟨none, 0, rfl, fun k x hk => by simp at hk⟩
        · rw [HA.out.2]; exact Nat.le_refl _
    · have HA : Hid (LE = 0 ∧ LV = L) := by
        have h1 : L.all tagOk = true := by
          rw [List.all_eq_true]
          intro x hx
          obtain ⟨j, hj, e⟩ := List.getElem_of_mem hx
          exact hto.out j x (by omega) (by rw [List.getElem?_eq_getElem hj, e])
        exact ⟨(hall.out _ h1).2, (hall.out _ h1).1⟩
      clear hto
      go_wp2_with fail
      go_ret2
      refine ⟨some a, L.length, ?_, ?_, ?_, HB1.out.trans (hb.out.mono HB1.out.size)⟩
      · rw [HA.out.1, HA.out.2]; rfl
      · rw [HA.out.2]; exact HST.out.below hb.out
      · rw [HA.out.2]; exact Nat.le_refl _
end Go.Proofs.YtjplfkcelkijfaaGreatDoor
