/- The law LineBack returns true. Condition: an operation of name and data of at most 1048576 bytes, a line of at most 1048576 bytes; what lies in variables. -/
import Derived.Deep.CutRange
import Derived.Test.YtjplfkcelkijfaaDoorWt
namespace Go.Proofs.YtjplfkcelkijfaaDoor
open Go.RowKit
attribute [local irreducible] wpQuiet

/-- an operation that can be stored, its texts no longer than n -/
def FitB (n : Nat) (x : OpV) : Prop := x.fits ∧ x.t.length ≤ n ∧ x.b.length ≤ n
theorem numV_in (s : List UInt8) : -9223372036854775808 ≤ (numV s).1 ∧ (numV s).1 ≤ 9223372036854775807 := by
  unfold numV
  split
  · exact ⟨by decide, by decide⟩
  · split
    · split
      · exact ⟨by simp only; omega, by simp only; omega⟩
      · exact ⟨by decide, by decide⟩
    · split
      · exact ⟨by simp only; omega, by simp only; omega⟩
      · exact ⟨by decide, by decide⟩
theorem hexP_le (l : List UInt8) : (hexP l).length ≤ l.length := by
  have := hexP_take (l := l) (k := l.length) (Nat.le_refl _)
  rw [List.take_length] at this
  rw [this, List.length_map, List.length_range]
  omega
theorem fitB_zero (n : Nat) (k : Nat) (hk : k ≤ 20) : FitB n (kindOp k) := ⟨⟨⟨by show -9223372036854775808 ≤ (k : Int); omega, by show (k : Int) ≤ _; omega⟩, ⟨by show -9223372036854775808 ≤ (0 : Int); omega, by show (0 : Int) ≤ _; omega⟩, ⟨by show -9223372036854775808 ≤ (0 : Int); omega, by show (0 : Int) ≤ _; omega⟩, ⟨by show -9223372036854775808 ≤ (0 : Int); omega, by show (0 : Int) ≤ _; omega⟩, zeroD_length⟩, Nat.zero_le _, Nat.zero_le _⟩
theorem take_fit {n : Nat} {x : OpV} {p : Nat} {s : List UInt8} (hx : FitB n x) (hs : s.length ≤ n) : FitB n (takeV x p s).1 := by
  obtain ⟨⟨hk, hi, ho, hn, hd⟩, ht, hb⟩ := hx
  have hN := numV_in s
  have htl : s.tail.length ≤ n := by rw [List.length_tail]; omega
  unfold takeV
  split
  · exact ⟨⟨hk, hN, ho, hn, hd⟩, ht, hb⟩
  · exact ⟨⟨hk, hi, hN, hn, hd⟩, ht, hb⟩
  · exact ⟨⟨hk, hi, ho, hN, hd⟩, ht, hb⟩
  · split
    · exact ⟨⟨hk, hi, ho, hn, hd⟩, htl, hb⟩
    · exact ⟨⟨hk, hi, ho, hn, hd⟩, ht, hb⟩
  · split
    · exact ⟨⟨hk, hi, ho, hn, digD_length s⟩, ht, hb⟩
    · exact ⟨⟨hk, hi, ho, hn, hd⟩, ht, hb⟩
  · split
    · exact ⟨⟨hk, hi, ho, hn, hd⟩, ht, Nat.le_trans (hexP_le _) htl⟩
    · exact ⟨⟨hk, hi, ho, hn, hd⟩, ht, hb⟩
theorem takes_fit {n : Nat} : ∀ (ps : List Nat) (ss : List (List UInt8)) (x : OpV), FitB n x → (∀ s ∈ ss, s.length ≤ n) → FitB n (takesV x ps ss).1
  | [], _, _, h, _ => h
  | _ :: _, [], _, h, _ => h
  | p :: ps, s :: ss, x, h, hs => by
    show FitB n (if (takeV x p s).2 ≠ 0 then (zeroOp, (takeV x p s).2) else takesV (takeV x p s).1 ps ss).1
    split
    · exact fitB_zero n 0 (by omega)
    · exact takes_fit ps ss _ (take_fit h (hs s (List.mem_cons_self ..))) fun t ht => hs t (List.mem_cons_of_mem _ ht)
theorem split_le (s : List UInt8) : ∀ x ∈ splitC 32 s, x.length ≤ s.length := by
  induction s with
  | nil => intro x hx; simp [splitC] at hx; subst hx; simp
  | cons y t ih =>
    intro x hx
    have e : splitC 32 (y :: t) = if y = 32 then [] :: splitC 32 t else (y :: (splitC 32 t).headD []) :: (splitC 32 t).tail := rfl
    rw [e] at hx
    by_cases hy : y = 32
    · rw [if_pos hy] at hx
      rcases List.mem_cons.1 hx with rfl | hx
      · simp
      · have := ih x hx; simp; omega
    · rw [if_neg hy] at hx
      have hne := splitC_ne 32 t
      cases h : splitC 32 t with
      | nil => exact absurd h hne
      | cons w ws =>
        rw [h] at hx ih
        simp only [List.headD_cons, List.tail_cons] at hx
        rcases List.mem_cons.1 hx with rfl | hx
        · have := ih w (List.mem_cons_self ..); simp; omega
        · have := ih x (List.mem_cons_of_mem _ hx); simp; omega
theorem read_fit {n : Nat} {s : List UInt8} (hs : s.length ≤ n) : FitB n (readV s).1 := by
  have hw : ∀ x ∈ (splitC 32 s).tail, x.length ≤ n := fun x hx => Nat.le_trans (split_le s x (List.mem_of_mem_tail hx)) hs
  unfold readV
  split
  · exact fitB_zero n 0 (by omega)
  · split
    · exact fitB_zero n 0 (by omega)
    · exact takes_fit _ _ _ (fitB_zero n _ (kindW_le _)) hw
theorem bare_b (x : OpV) (A : Option Addr) (cap : Nat) : ∃ B c, bareSl (.slice A x.b.length cap) (partI x.k) = .slice B (bareV x).b.length c ∧ ∀ w, CellsIn w A (Lib.byteCells x.b) → CellsIn w B (Lib.byteCells (bareV x).b) := by
  have aux : ∀ (l : List Nat) (y : OpV), (∀ p ∈ l, p ≤ 5) → (l.foldl (bareP x) y).b = if 5 ∈ l then x.b else y.b := by
    intro l
    induction l with
    | nil => intro y _; rfl
    | cons p l ih =>
      intro y hl
      rw [List.foldl_cons, ih _ fun q hq => hl q (List.mem_cons_of_mem _ hq)]
      have hp := hl p (List.mem_cons_self ..)
      by_cases h5 : 5 ∈ l
      · rw [if_pos h5, if_pos (List.mem_cons_of_mem _ h5)]
      · rw [if_neg h5]
        have hpc : p = 0 ∨ p = 1 ∨ p = 2 ∨ p = 3 ∨ p = 4 ∨ p = 5 := by omega
        rcases hpc with rfl | rfl | rfl | rfl | rfl | rfl <;> simp [bareP, h5]
  have hb : (bareV x).b = if 5 ∈ partI x.k then x.b else [] := by
    have := aux (partI x.k) (kindOp x.k) (partI_le x.k)
    rw [← bareTo_all]
    unfold bareTo
    rw [List.take_length, this]; rfl
  unfold bareSl
  rw [hb]
  by_cases h5 : 5 ∈ partI x.k
  · simp only [if_pos h5]
    exact ⟨A, cap, rfl, fun w h => h⟩
  · simp only [if_neg h5]
    exact ⟨none, 0, rfl, fun w h k v hk => by simp [Lib.byteCells] at hk⟩

set_option maxHeartbeats 4000000 in
set_option maxRecDepth 100000 in
theorem law_back (x : OpV) (A : Option Addr) (cap : Nat) (s : ByteArray) (w : World) (hx : x.fits) (hA : CellsIn w A (Lib.byteCells x.b)) (hl : x.b.length ≤ 1048576) (ht : x.t.length ≤ 1048576) (hs : s.size ≤ 1048576) (hE : LEnv w) :
    Calls Tryd.prog 4 #[.agg (opV x (.slice A x.b.length cap)).toArray, .string s] w fun e w' => e = .returned (.bool true) ∧ Below w.heap.size w w' := by
  have hb0 : Below w.heap.size w (w.alloc (.cells (opV x (.slice A x.b.length cap)).toArray 26)) := (Below.refl _ _).alloc (Nat.le_refl _) _
  have hA0 := hA.below hb0
  have hE0 := hE.below hb0
  have hO0 := opAt_new w x (.slice A x.b.length cap) hx.2.2.2.2
  have hrg := rangeAt_new w (opV x (.slice A x.b.length cap)) 26
  have htl : (⟨(textL x).toArray⟩ : ByteArray).size ≤ 8388608 := by
    show (textL x).toArray.size ≤ _
    have := soFar_len x (partI x.k).length hx ht hl
    rw [soFar_all] at this
    simp; omega
  have HFIT := Lib.hid hx
  have HL := Lib.hid hl
  have HT := Lib.hid ht
  have HS := Lib.hid hs
  have HTL := Lib.hid htl
  have hl38 := opV_length x (.slice A x.b.length cap) hx.2.2.2.2
  go_enter Tryd.func4, Tryd.ntmps4
  go_upto_region 1 with (fail)
  generalize w.alloc (.cells (opV x (.slice A x.b.length cap)).toArray 26) = w0 at *
  have HTX := Lib.hid (text_calls x A cap w0 hx hA0 hl ht hE0.env.1)
  have HRG := Lib.hid hrg
  have HA0 := Lib.hid hA0
  have HE0 := Lib.hid hE0
  have HO0 := Lib.hid hO0
  have HB0 := Lib.hid hb0
  have HL38 := Lib.hid hl38
  have HRD := Lib.hid (fun W h => read_calls ⟨(textL x).toArray⟩ W htl h)
  have hRF := read_fit (n := 8388608) (s := textL x) (by have h := htl; change (textL x).toArray.size ≤ _ at h; simpa using h)
  have HRT := Lib.hid (read_text x hx)
  obtain ⟨⟨y, er⟩, hrv⟩ : ∃ rv, readV (textL x) = rv := ⟨_, rfl⟩
  rw [hrv] at hRF HRT
  have hd5 := hRF.1.2.2.2.2
  have HRV := Lib.hid hrv
  clear hx hA hl ht hs hE hA0 hE0 hrg hO0 hb0 hl38 htl hRF hrv
  go_upto_region 2 with (first | ((with_reducible apply wpList_load_opG w.heap.size (opV x (.slice A x.b.length cap))); rfl; exact HRG.out; exact HL38.out; rfl) | (go_at_call 5; refine HTX.out.mono ?_; rintro e w1 ⟨rfl, hb1⟩; have HB1 := Lib.hid hb1; clear hb1) | (go_at_call 8; refine (HRD.out _ (HE0.out.below HB1.out)).mono ?_; rintro e w2 ⟨_, rfl, ⟨B, c2, rfl, hc⟩, hb2⟩; simp only [HRV.out] at hc ⊢; have HC := Lib.hid hc; have HB2 := Lib.hid (HB1.out.trans (hb2.mono HB1.out.size)); clear hb2 hc) | ((with_reducible apply wpList_store_op w2.heap.size (c0 := opV zeroOp (.slice none 0 0))); (case hy => rfl); (case hx => rfl); (case hf => exact opV_length _ _ hd5); (case hf0 => exact kindOp_len 0); (case h1 => exact opV_one _ _ rfl); (case hg => exact World.alloc_heap_new _ _)))
  change Code.wp _ _ _ _ ((w2.alloc (.cells (opV zeroOp (.slice none 0 0)).toArray 26)).setRow w2.heap.size (opV y (.slice B y.b.length c2)).toArray)
  obtain ⟨hrg5, hb3⟩ := op_stored w2 y (.slice B y.b.length c2)
  have HC3 := Lib.hid (HC.out.below hb3)
  have HB3 := Lib.hid (HB2.out.trans (hb3.mono HB2.out.size))
  generalize (w2.alloc (.cells (opV zeroOp (.slice none 0 0)).toArray 26)).setRow w2.heap.size (opV y (.slice B y.b.length c2)).toArray = w3 at *
  generalize w2.heap.size = g5 at *
  have HRG5 := Lib.hid hrg5
  have HL5 := Lib.hid (opV_length y (.slice B y.b.length c2) hd5)
  obtain ⟨fs, hu⟩ := Go.Proofs.YtjplfkcelkijfaaDoor.u26
  have HU := Lib.hid hu
  clear hrg5 hb3 HC HB2 HB1 hd5 hu
  go_cut [43] from 15 to 43 (fun p wc => p = .bool false ∧ Hid (Below w3.heap.size w3 wc))
  case first =>
    have kc : ∀ W, Below w3.heap.size w3 W → W.cell? ⟨w.heap.size, 0, none⟩ = some (.int .i64 x.k) := fun W h => ((HO0.out.below HB3.out).below h).k
    have tc : ∀ W, Below w3.heap.size w3 W → W.cell? ⟨w.heap.size, 4, none⟩ = some (.string ⟨x.t.toArray⟩) := fun W h => ((HO0.out.below HB3.out).below h).t
    by_cases hk1 : x.k < 1
    · refine wp_region_below (by kernel_rfl) ?_
      refine qv (.pointer (some ⟨w.heap.size, 0, none⟩)) (by kernel_rfl) (fun W => by go_simp) ?_
      try simp only [Act.put, List.setIfInBounds_toArray, List.set_cons_zero, List.set_cons_succ]
      refine qr (.int .i64 x.k) (by kernel_rfl) (fun W h => by have := kc W h; go_simp) ?_
      try simp only [Act.put, List.setIfInBounds_toArray, List.set_cons_zero, List.set_cons_succ]
      refine qv (.bool false) (by kernel_rfl) (fun W => by go_simp) ?_
      try simp only [Act.put, List.setIfInBounds_toArray, List.set_cons_zero, List.set_cons_succ]
      refine qv (.bool false) (by kernel_rfl) (fun W => rfl) ?_
      try simp only [Act.put, List.setIfInBounds_toArray, List.set_cons_zero, List.set_cons_succ]
      refine qn (by kernel_rfl) ?_
      try simp only [Act.put, List.setIfInBounds_toArray, List.set_cons_zero, List.set_cons_succ]
      refine qn (by kernel_rfl) ?_
      try simp only [Act.put, List.setIfInBounds_toArray, List.set_cons_zero, List.set_cons_succ]
      refine qn (by kernel_rfl) ?_
      try simp only [Act.put, List.setIfInBounds_toArray, List.set_cons_zero, List.set_cons_succ]
      refine qv (.bool false) (by kernel_rfl) (fun W => rfl) ?_
      try simp only [Act.put, List.setIfInBounds_toArray, List.set_cons_zero, List.set_cons_succ]
      refine qv (.bool false) (by kernel_rfl) (fun W => rfl) ?_
      try simp only [Act.put, List.setIfInBounds_toArray, List.set_cons_zero, List.set_cons_succ]
      refine qn (by kernel_rfl) ?_
      try simp only [Act.put, List.setIfInBounds_toArray, List.set_cons_zero, List.set_cons_succ]
      refine qn (by kernel_rfl) ?_
      try simp only [Act.put, List.setIfInBounds_toArray, List.set_cons_zero, List.set_cons_succ]
      refine qn (by kernel_rfl) ?_
      try simp only [Act.put, List.setIfInBounds_toArray, List.set_cons_zero, List.set_cons_succ]
      refine qn (by kernel_rfl) ?_
      try simp only [Act.put, List.setIfInBounds_toArray, List.set_cons_zero, List.set_cons_succ]
      refine qn (by kernel_rfl) ?_
      try simp only [Act.put, List.setIfInBounds_toArray, List.set_cons_zero, List.set_cons_succ]
      refine qn (by kernel_rfl) ?_
      try simp only [Act.put, List.setIfInBounds_toArray, List.set_cons_zero, List.set_cons_succ]
      refine qn (by kernel_rfl) ?_
      try simp only [Act.put, List.setIfInBounds_toArray, List.set_cons_zero, List.set_cons_succ]
      refine qn (by kernel_rfl) ?_
      try simp only [Act.put, List.setIfInBounds_toArray, List.set_cons_zero, List.set_cons_succ]
      refine qv (.bool false) (by kernel_rfl) (fun W => rfl) ?_
      try simp only [Act.put, List.setIfInBounds_toArray, List.set_cons_zero, List.set_cons_succ]
      refine qv (.bool false) (by kernel_rfl) (fun W => rfl) ?_
      try simp only [Act.put, List.setIfInBounds_toArray, List.set_cons_zero, List.set_cons_succ]
      refine qn (by kernel_rfl) ?_
      try simp only [Act.put, List.setIfInBounds_toArray, List.set_cons_zero, List.set_cons_succ]
      refine qn (by kernel_rfl) ?_
      try simp only [Act.put, List.setIfInBounds_toArray, List.set_cons_zero, List.set_cons_succ]
      refine qn (by kernel_rfl) ?_
      try simp only [Act.put, List.setIfInBounds_toArray, List.set_cons_zero, List.set_cons_succ]
      refine qn (by kernel_rfl) ?_
      try simp only [Act.put, List.setIfInBounds_toArray, List.set_cons_zero, List.set_cons_succ]
      refine qn (by kernel_rfl) ?_
      try simp only [Act.put, List.setIfInBounds_toArray, List.set_cons_zero, List.set_cons_succ]
      refine qn (by kernel_rfl) ?_
      try simp only [Act.put, List.setIfInBounds_toArray, List.set_cons_zero, List.set_cons_succ]
      refine qn (by kernel_rfl) ?_
      try simp only [Act.put, List.setIfInBounds_toArray, List.set_cons_zero, List.set_cons_succ]
      refine qn (by kernel_rfl) ?_
      try simp only [Act.put, List.setIfInBounds_toArray, List.set_cons_zero, List.set_cons_succ]
      refine qn (by kernel_rfl) ?_
      try simp only [Act.put, List.setIfInBounds_toArray, List.set_cons_zero, List.set_cons_succ]
      refine qv (.bool false) (by kernel_rfl) (fun W => rfl) ?_
      try simp only [Act.put, List.setIfInBounds_toArray, List.set_cons_zero, List.set_cons_succ]
      refine wpQuiet_nil fun w9 hb9 => ?_
      have HB9 := Lib.hid hb9
      clear kc tc hk1
      go_wp2_with fail
      go_meet
      case rel => exact ⟨rfl, HB9.out⟩
    by_cases hk2 : 20 < x.k
    · have hk3 : 1 ≤ x.k := by omega
      refine wp_region_below (by kernel_rfl) ?_
      refine qv (.pointer (some ⟨w.heap.size, 0, none⟩)) (by kernel_rfl) (fun W => by go_simp) ?_
      try simp only [Act.put, List.setIfInBounds_toArray, List.set_cons_zero, List.set_cons_succ]
      refine qr (.int .i64 x.k) (by kernel_rfl) (fun W h => by have := kc W h; go_simp) ?_
      try simp only [Act.put, List.setIfInBounds_toArray, List.set_cons_zero, List.set_cons_succ]
      refine qv (.bool true) (by kernel_rfl) (fun W => by go_simp) ?_
      try simp only [Act.put, List.setIfInBounds_toArray, List.set_cons_zero, List.set_cons_succ]
      refine qv (.bool true) (by kernel_rfl) (fun W => rfl) ?_
      try simp only [Act.put, List.setIfInBounds_toArray, List.set_cons_zero, List.set_cons_succ]
      refine qv (.pointer (some ⟨w.heap.size, 0, none⟩)) (by kernel_rfl) (fun W => by go_simp) ?_
      try simp only [Act.put, List.setIfInBounds_toArray, List.set_cons_zero, List.set_cons_succ]
      refine qr (.int .i64 x.k) (by kernel_rfl) (fun W h => by have := kc W h; go_simp) ?_
      try simp only [Act.put, List.setIfInBounds_toArray, List.set_cons_zero, List.set_cons_succ]
      refine qv (.bool false) (by kernel_rfl) (fun W => by go_simp) ?_
      try simp only [Act.put, List.setIfInBounds_toArray, List.set_cons_zero, List.set_cons_succ]
      refine qv (.bool false) (by kernel_rfl) (fun W => rfl) ?_
      try simp only [Act.put, List.setIfInBounds_toArray, List.set_cons_zero, List.set_cons_succ]
      refine qv (.bool false) (by kernel_rfl) (fun W => rfl) ?_
      try simp only [Act.put, List.setIfInBounds_toArray, List.set_cons_zero, List.set_cons_succ]
      refine qn (by kernel_rfl) ?_
      try simp only [Act.put, List.setIfInBounds_toArray, List.set_cons_zero, List.set_cons_succ]
      refine qn (by kernel_rfl) ?_
      try simp only [Act.put, List.setIfInBounds_toArray, List.set_cons_zero, List.set_cons_succ]
      refine qn (by kernel_rfl) ?_
      try simp only [Act.put, List.setIfInBounds_toArray, List.set_cons_zero, List.set_cons_succ]
      refine qn (by kernel_rfl) ?_
      try simp only [Act.put, List.setIfInBounds_toArray, List.set_cons_zero, List.set_cons_succ]
      refine qn (by kernel_rfl) ?_
      try simp only [Act.put, List.setIfInBounds_toArray, List.set_cons_zero, List.set_cons_succ]
      refine qn (by kernel_rfl) ?_
      try simp only [Act.put, List.setIfInBounds_toArray, List.set_cons_zero, List.set_cons_succ]
      refine qn (by kernel_rfl) ?_
      try simp only [Act.put, List.setIfInBounds_toArray, List.set_cons_zero, List.set_cons_succ]
      refine qn (by kernel_rfl) ?_
      try simp only [Act.put, List.setIfInBounds_toArray, List.set_cons_zero, List.set_cons_succ]
      refine qv (.bool false) (by kernel_rfl) (fun W => rfl) ?_
      try simp only [Act.put, List.setIfInBounds_toArray, List.set_cons_zero, List.set_cons_succ]
      refine qv (.bool false) (by kernel_rfl) (fun W => rfl) ?_
      try simp only [Act.put, List.setIfInBounds_toArray, List.set_cons_zero, List.set_cons_succ]
      refine qn (by kernel_rfl) ?_
      try simp only [Act.put, List.setIfInBounds_toArray, List.set_cons_zero, List.set_cons_succ]
      refine qn (by kernel_rfl) ?_
      try simp only [Act.put, List.setIfInBounds_toArray, List.set_cons_zero, List.set_cons_succ]
      refine qn (by kernel_rfl) ?_
      try simp only [Act.put, List.setIfInBounds_toArray, List.set_cons_zero, List.set_cons_succ]
      refine qn (by kernel_rfl) ?_
      try simp only [Act.put, List.setIfInBounds_toArray, List.set_cons_zero, List.set_cons_succ]
      refine qn (by kernel_rfl) ?_
      try simp only [Act.put, List.setIfInBounds_toArray, List.set_cons_zero, List.set_cons_succ]
      refine qn (by kernel_rfl) ?_
      try simp only [Act.put, List.setIfInBounds_toArray, List.set_cons_zero, List.set_cons_succ]
      refine qn (by kernel_rfl) ?_
      try simp only [Act.put, List.setIfInBounds_toArray, List.set_cons_zero, List.set_cons_succ]
      refine qn (by kernel_rfl) ?_
      try simp only [Act.put, List.setIfInBounds_toArray, List.set_cons_zero, List.set_cons_succ]
      refine qn (by kernel_rfl) ?_
      try simp only [Act.put, List.setIfInBounds_toArray, List.set_cons_zero, List.set_cons_succ]
      refine qv (.bool false) (by kernel_rfl) (fun W => rfl) ?_
      try simp only [Act.put, List.setIfInBounds_toArray, List.set_cons_zero, List.set_cons_succ]
      refine wpQuiet_nil fun w9 hb9 => ?_
      have HB9 := Lib.hid hb9
      clear kc tc hk1 hk2 hk3
      go_wp2_with fail
      go_meet
      case rel => exact ⟨rfl, HB9.out⟩
    have hk3 : 1 ≤ x.k := by omega
    have hk4 : x.k ≤ 20 := by omega
    clear hk1 hk2
    by_cases hok : x.t = [] ∨ tagOk x.t = true
    · obtain ⟨rfl, rfl⟩ : y = bareV x ∧ er = 0 := by
        have := HRT.out hk3 hk4 hok
        simpa using this
      obtain ⟨B2, c3, hbs, hBc⟩ := bare_b x A cap
      have barec : ∀ W, Below w3.heap.size w3 W → Calls Tryd.prog 11 #[.agg (opV x (.slice A x.b.length cap)).toArray] W fun e W' => e = .returned (.agg (opV (bareV x) (.slice B2 (bareV x).b.length c3)).toArray) ∧ Below w3.heap.size w3 W' := fun W h => by
        have := bare_calls x A cap W HFIT.out
        rw [hbs] at this
        exact grown_call h this
      have hbl : (bareV x).b.length ≤ 8388608 := by
        have := HRV.out
        have h2 := read_fit (n := 8388608) (s := textL x) (by have h := HTL.out; change (textL x).toArray.size ≤ _ at h; simpa using h)
        rw [this] at h2
        exact h2.2.2
      have samec : ∀ W, Below w3.heap.size w3 W → Calls Tryd.prog 10 #[.agg (opV (bareV x) (.slice B (bareV x).b.length c2)).toArray, .agg (opV (bareV x) (.slice B2 (bareV x).b.length c3)).toArray] W fun e W' => e = .returned (.bool true) ∧ Below w3.heap.size w3 W' := fun W h =>
        grown_call h (same_calls (bareV x) B B2 c2 c3 W (by rw [← bareTo_all]; exact bareTo_d x _ HFIT.out.2.2.2.2) (HC3.out.below h) (hBc W ((HA0.out.below HB3.out).below h)) hbl)
      have hld2 : ∀ W, Below w3.heap.size w3 W → (loadVar 26 ⟨w.heap.size, 0, none⟩).run Tryd.prog W = .ok (.agg (opV x (.slice A x.b.length cap)).toArray) W := fun W h =>
        run_loadVar_mid W w.heap.size 0 26 _ _ (rangeAt_below (rangeAt_below HRG.out HB3.out) h) HU.out rfl (by rw [size26, HL38.out])
      have hld5 : ∀ W, Below w3.heap.size w3 W → (loadVar 26 ⟨g5, 0, none⟩).run Tryd.prog W = .ok (.agg (opV (bareV x) (.slice B (bareV x).b.length c2)).toArray) W := fun W h =>
        run_loadVar_mid W g5 0 26 _ _ (rangeAt_below HRG5.out h) HU.out rfl (by rw [size26, HL5.out])
      by_cases ht0 : x.t = []
      · have hte : (⟨x.t.toArray⟩ : ByteArray).toList = [] := by rw [ByteArray.toList_eq]; simp [ht0]
        clear hok ht0 hbl hbs hBc
        refine wp_region_below (by kernel_rfl) ?_
        refine qv (.pointer (some ⟨w.heap.size, 0, none⟩)) (by kernel_rfl) (fun W => by go_simp) ?_
        try simp only [Act.put, List.setIfInBounds_toArray, List.set_cons_zero, List.set_cons_succ]
        refine qr (.int .i64 x.k) (by kernel_rfl) (fun W h => by have := kc W h; go_simp) ?_
        try simp only [Act.put, List.setIfInBounds_toArray, List.set_cons_zero, List.set_cons_succ]
        refine qv (.bool true) (by kernel_rfl) (fun W => by go_simp) ?_
        try simp only [Act.put, List.setIfInBounds_toArray, List.set_cons_zero, List.set_cons_succ]
        refine qv (.bool true) (by kernel_rfl) (fun W => rfl) ?_
        try simp only [Act.put, List.setIfInBounds_toArray, List.set_cons_zero, List.set_cons_succ]
        refine qv (.pointer (some ⟨w.heap.size, 0, none⟩)) (by kernel_rfl) (fun W => by go_simp) ?_
        try simp only [Act.put, List.setIfInBounds_toArray, List.set_cons_zero, List.set_cons_succ]
        refine qr (.int .i64 x.k) (by kernel_rfl) (fun W h => by have := kc W h; go_simp) ?_
        try simp only [Act.put, List.setIfInBounds_toArray, List.set_cons_zero, List.set_cons_succ]
        refine qv (.bool true) (by kernel_rfl) (fun W => by go_simp) ?_
        try simp only [Act.put, List.setIfInBounds_toArray, List.set_cons_zero, List.set_cons_succ]
        refine qv (.bool true) (by kernel_rfl) (fun W => rfl) ?_
        try simp only [Act.put, List.setIfInBounds_toArray, List.set_cons_zero, List.set_cons_succ]
        refine qv (.bool true) (by kernel_rfl) (fun W => rfl) ?_
        try simp only [Act.put, List.setIfInBounds_toArray, List.set_cons_zero, List.set_cons_succ]
        refine qv (.pointer (some ⟨w.heap.size, 4, none⟩)) (by kernel_rfl) (fun W => by go_simp) ?_
        try simp only [Act.put, List.setIfInBounds_toArray, List.set_cons_zero, List.set_cons_succ]
        refine qr (.string ⟨x.t.toArray⟩) (by kernel_rfl) (fun W h => by have := tc W h; go_simp) ?_
        try simp only [Act.put, List.setIfInBounds_toArray, List.set_cons_zero, List.set_cons_succ]
        refine qv (.bool true) (by kernel_rfl) (fun W => by go_simp) ?_
        try simp only [Act.put, List.setIfInBounds_toArray, List.set_cons_zero, List.set_cons_succ]
        refine qv (.bool true) (by kernel_rfl) (fun W => rfl) ?_
        try simp only [Act.put, List.setIfInBounds_toArray, List.set_cons_zero, List.set_cons_succ]
        refine qn (by kernel_rfl) ?_
        try simp only [Act.put, List.setIfInBounds_toArray, List.set_cons_zero, List.set_cons_succ]
        refine qn (by kernel_rfl) ?_
        try simp only [Act.put, List.setIfInBounds_toArray, List.set_cons_zero, List.set_cons_succ]
        refine qn (by kernel_rfl) ?_
        try simp only [Act.put, List.setIfInBounds_toArray, List.set_cons_zero, List.set_cons_succ]
        refine qv (.bool true) (by kernel_rfl) (fun W => rfl) ?_
        try simp only [Act.put, List.setIfInBounds_toArray, List.set_cons_zero, List.set_cons_succ]
        refine qv (.bool true) (by kernel_rfl) (fun W => rfl) ?_
        try simp only [Act.put, List.setIfInBounds_toArray, List.set_cons_zero, List.set_cons_succ]
        refine qv (.bool true) (by kernel_rfl) (fun W => rfl) ?_
        try simp only [Act.put, List.setIfInBounds_toArray, List.set_cons_zero, List.set_cons_succ]
        refine qv (.int .i64 0) (by kernel_rfl) (fun W => rfl) ?_
        try simp only [Act.put, List.setIfInBounds_toArray, List.set_cons_zero, List.set_cons_succ]
        refine qv (.bool false) (by kernel_rfl) (fun W => by go_simp) ?_
        try simp only [Act.put, List.setIfInBounds_toArray, List.set_cons_zero, List.set_cons_succ]
        refine qv (.bool false) (by kernel_rfl) (fun W => rfl) ?_
        try simp only [Act.put, List.setIfInBounds_toArray, List.set_cons_zero, List.set_cons_succ]
        refine ql 26 (.tmp 5) rfl g5 0 _ rfl hld5 (by kernel_rfl) ?_
        try simp only [Act.put, List.setIfInBounds_toArray, List.set_cons_zero, List.set_cons_succ]
        refine ql 26 (.tmp 2) rfl w.heap.size 0 _ rfl hld2 (by kernel_rfl) ?_
        try simp only [Act.put, List.setIfInBounds_toArray, List.set_cons_zero, List.set_cons_succ]
        refine qc (.agg (opV (bareV x) (.slice B2 (bareV x).b.length c3)).toArray) 11 #[.agg (opV x (.slice A x.b.length cap)).toArray] (by kernel_rfl) (fun W => by go_simp) (fun W h => barec W h) ?_
        try simp only [Act.put, List.setIfInBounds_toArray, List.set_cons_zero, List.set_cons_succ]
        refine qc (.bool true) 10 #[.agg (opV (bareV x) (.slice B (bareV x).b.length c2)).toArray, .agg (opV (bareV x) (.slice B2 (bareV x).b.length c3)).toArray] (by kernel_rfl) (fun W => by go_simp) (fun W h => samec W h) ?_
        try simp only [Act.put, List.setIfInBounds_toArray, List.set_cons_zero, List.set_cons_succ]
        refine qv (.bool false) (by kernel_rfl) (fun W => by go_simp) ?_
        try simp only [Act.put, List.setIfInBounds_toArray, List.set_cons_zero, List.set_cons_succ]
        refine qv (.bool false) (by kernel_rfl) (fun W => rfl) ?_
        try simp only [Act.put, List.setIfInBounds_toArray, List.set_cons_zero, List.set_cons_succ]
        refine qv (.bool false) (by kernel_rfl) (fun W => rfl) ?_
        try simp only [Act.put, List.setIfInBounds_toArray, List.set_cons_zero, List.set_cons_succ]
        refine wpQuiet_nil fun w9 hb9 => ?_
        have HB9 := Lib.hid hb9
        clear kc tc hk3 hk4 hld2 hld5 barec samec hte
        go_wp2_with fail
        go_meet
        case rel => exact ⟨rfl, HB9.out⟩
      · have hte : (⟨x.t.toArray⟩ : ByteArray).toList.isEmpty = false := by rw [ByteArray.toList_eq]; simpa using ht0
        have htt : tagOk x.t = true := hok.resolve_left ht0
        have tagc : ∀ W, Calls Tryd.prog 9 #[.string ⟨x.t.toArray⟩] W fun e W' => e = .returned (.bool true) ∧ Below W.heap.size W W' := fun W => by
          have := refTag_calls ⟨x.t.toArray⟩ W (by have := HT.out; show x.t.toArray.size ≤ _; simpa using this)
          rw [show (⟨x.t.toArray⟩ : ByteArray).data.toList = x.t by simp, htt] at this
          exact this.mono fun e W' ⟨h1, h2⟩ => ⟨h1, h2 ▸ Below.refl _ _⟩
        clear hok htt hbl hbs hBc
        refine wp_region_below (by kernel_rfl) ?_
        refine qv (.pointer (some ⟨w.heap.size, 0, none⟩)) (by kernel_rfl) (fun W => by go_simp) ?_
        try simp only [Act.put, List.setIfInBounds_toArray, List.set_cons_zero, List.set_cons_succ]
        refine qr (.int .i64 x.k) (by kernel_rfl) (fun W h => by have := kc W h; go_simp) ?_
        try simp only [Act.put, List.setIfInBounds_toArray, List.set_cons_zero, List.set_cons_succ]
        refine qv (.bool true) (by kernel_rfl) (fun W => by go_simp) ?_
        try simp only [Act.put, List.setIfInBounds_toArray, List.set_cons_zero, List.set_cons_succ]
        refine qv (.bool true) (by kernel_rfl) (fun W => rfl) ?_
        try simp only [Act.put, List.setIfInBounds_toArray, List.set_cons_zero, List.set_cons_succ]
        refine qv (.pointer (some ⟨w.heap.size, 0, none⟩)) (by kernel_rfl) (fun W => by go_simp) ?_
        try simp only [Act.put, List.setIfInBounds_toArray, List.set_cons_zero, List.set_cons_succ]
        refine qr (.int .i64 x.k) (by kernel_rfl) (fun W h => by have := kc W h; go_simp) ?_
        try simp only [Act.put, List.setIfInBounds_toArray, List.set_cons_zero, List.set_cons_succ]
        refine qv (.bool true) (by kernel_rfl) (fun W => by go_simp) ?_
        try simp only [Act.put, List.setIfInBounds_toArray, List.set_cons_zero, List.set_cons_succ]
        refine qv (.bool true) (by kernel_rfl) (fun W => rfl) ?_
        try simp only [Act.put, List.setIfInBounds_toArray, List.set_cons_zero, List.set_cons_succ]
        refine qv (.bool true) (by kernel_rfl) (fun W => rfl) ?_
        try simp only [Act.put, List.setIfInBounds_toArray, List.set_cons_zero, List.set_cons_succ]
        refine qv (.pointer (some ⟨w.heap.size, 4, none⟩)) (by kernel_rfl) (fun W => by go_simp) ?_
        try simp only [Act.put, List.setIfInBounds_toArray, List.set_cons_zero, List.set_cons_succ]
        refine qr (.string ⟨x.t.toArray⟩) (by kernel_rfl) (fun W h => by have := tc W h; go_simp) ?_
        try simp only [Act.put, List.setIfInBounds_toArray, List.set_cons_zero, List.set_cons_succ]
        refine qv (.bool false) (by kernel_rfl) (fun W => by go_simp) ?_
        try simp only [Act.put, List.setIfInBounds_toArray, List.set_cons_zero, List.set_cons_succ]
        refine qv (.bool false) (by kernel_rfl) (fun W => rfl) ?_
        try simp only [Act.put, List.setIfInBounds_toArray, List.set_cons_zero, List.set_cons_succ]
        refine qv (.pointer (some ⟨w.heap.size, 4, none⟩)) (by kernel_rfl) (fun W => by go_simp) ?_
        try simp only [Act.put, List.setIfInBounds_toArray, List.set_cons_zero, List.set_cons_succ]
        refine qr (.string ⟨x.t.toArray⟩) (by kernel_rfl) (fun W h => by have := tc W h; go_simp) ?_
        try simp only [Act.put, List.setIfInBounds_toArray, List.set_cons_zero, List.set_cons_succ]
        refine qc (.bool true) 9 #[.string ⟨x.t.toArray⟩] (by kernel_rfl) (fun W => by go_simp) (fun W h => grown_call h (tagc W)) ?_
        try simp only [Act.put, List.setIfInBounds_toArray, List.set_cons_zero, List.set_cons_succ]
        refine qv (.bool true) (by kernel_rfl) (fun W => rfl) ?_
        try simp only [Act.put, List.setIfInBounds_toArray, List.set_cons_zero, List.set_cons_succ]
        refine qv (.bool true) (by kernel_rfl) (fun W => rfl) ?_
        try simp only [Act.put, List.setIfInBounds_toArray, List.set_cons_zero, List.set_cons_succ]
        refine qv (.bool true) (by kernel_rfl) (fun W => rfl) ?_
        try simp only [Act.put, List.setIfInBounds_toArray, List.set_cons_zero, List.set_cons_succ]
        refine qv (.int .i64 0) (by kernel_rfl) (fun W => rfl) ?_
        try simp only [Act.put, List.setIfInBounds_toArray, List.set_cons_zero, List.set_cons_succ]
        refine qv (.bool false) (by kernel_rfl) (fun W => by go_simp) ?_
        try simp only [Act.put, List.setIfInBounds_toArray, List.set_cons_zero, List.set_cons_succ]
        refine qv (.bool false) (by kernel_rfl) (fun W => rfl) ?_
        try simp only [Act.put, List.setIfInBounds_toArray, List.set_cons_zero, List.set_cons_succ]
        refine ql 26 (.tmp 5) rfl g5 0 _ rfl hld5 (by kernel_rfl) ?_
        try simp only [Act.put, List.setIfInBounds_toArray, List.set_cons_zero, List.set_cons_succ]
        refine ql 26 (.tmp 2) rfl w.heap.size 0 _ rfl hld2 (by kernel_rfl) ?_
        try simp only [Act.put, List.setIfInBounds_toArray, List.set_cons_zero, List.set_cons_succ]
        refine qc (.agg (opV (bareV x) (.slice B2 (bareV x).b.length c3)).toArray) 11 #[.agg (opV x (.slice A x.b.length cap)).toArray] (by kernel_rfl) (fun W => by go_simp) (fun W h => barec W h) ?_
        try simp only [Act.put, List.setIfInBounds_toArray, List.set_cons_zero, List.set_cons_succ]
        refine qc (.bool true) 10 #[.agg (opV (bareV x) (.slice B (bareV x).b.length c2)).toArray, .agg (opV (bareV x) (.slice B2 (bareV x).b.length c3)).toArray] (by kernel_rfl) (fun W => by go_simp) (fun W h => samec W h) ?_
        try simp only [Act.put, List.setIfInBounds_toArray, List.set_cons_zero, List.set_cons_succ]
        refine qv (.bool false) (by kernel_rfl) (fun W => by go_simp) ?_
        try simp only [Act.put, List.setIfInBounds_toArray, List.set_cons_zero, List.set_cons_succ]
        refine qv (.bool false) (by kernel_rfl) (fun W => rfl) ?_
        try simp only [Act.put, List.setIfInBounds_toArray, List.set_cons_zero, List.set_cons_succ]
        refine qv (.bool false) (by kernel_rfl) (fun W => rfl) ?_
        try simp only [Act.put, List.setIfInBounds_toArray, List.set_cons_zero, List.set_cons_succ]
        refine wpQuiet_nil fun w9 hb9 => ?_
        have HB9 := Lib.hid hb9
        clear kc tc hk3 hk4 hld2 hld5 barec samec hte tagc ht0
        go_wp2_with fail
        go_meet
        case rel => exact ⟨rfl, HB9.out⟩
    · have ht0 : ¬ x.t = [] := fun h => hok (.inl h)
      have hte : (⟨x.t.toArray⟩ : ByteArray).toList.isEmpty = false := by rw [ByteArray.toList_eq]; simpa using ht0
      have htt : tagOk x.t = false := by rw [Bool.eq_false_iff]; exact fun h => hok (.inr h)
      have tagc : ∀ W, Calls Tryd.prog 9 #[.string ⟨x.t.toArray⟩] W fun e W' => e = .returned (.bool false) ∧ Below W.heap.size W W' := fun W => by
        have := refTag_calls ⟨x.t.toArray⟩ W (by have := HT.out; show x.t.toArray.size ≤ _; simpa using this)
        rw [show (⟨x.t.toArray⟩ : ByteArray).data.toList = x.t by simp, htt] at this
        exact this.mono fun e W' ⟨h1, h2⟩ => ⟨h1, h2 ▸ Below.refl _ _⟩
      clear hok htt
      refine wp_region_below (by kernel_rfl) ?_
      refine qv (.pointer (some ⟨w.heap.size, 0, none⟩)) (by kernel_rfl) (fun W => by go_simp) ?_
      try simp only [Act.put, List.setIfInBounds_toArray, List.set_cons_zero, List.set_cons_succ]
      refine qr (.int .i64 x.k) (by kernel_rfl) (fun W h => by have := kc W h; go_simp) ?_
      try simp only [Act.put, List.setIfInBounds_toArray, List.set_cons_zero, List.set_cons_succ]
      refine qv (.bool true) (by kernel_rfl) (fun W => by go_simp) ?_
      try simp only [Act.put, List.setIfInBounds_toArray, List.set_cons_zero, List.set_cons_succ]
      refine qv (.bool true) (by kernel_rfl) (fun W => rfl) ?_
      try simp only [Act.put, List.setIfInBounds_toArray, List.set_cons_zero, List.set_cons_succ]
      refine qv (.pointer (some ⟨w.heap.size, 0, none⟩)) (by kernel_rfl) (fun W => by go_simp) ?_
      try simp only [Act.put, List.setIfInBounds_toArray, List.set_cons_zero, List.set_cons_succ]
      refine qr (.int .i64 x.k) (by kernel_rfl) (fun W h => by have := kc W h; go_simp) ?_
      try simp only [Act.put, List.setIfInBounds_toArray, List.set_cons_zero, List.set_cons_succ]
      refine qv (.bool true) (by kernel_rfl) (fun W => by go_simp) ?_
      try simp only [Act.put, List.setIfInBounds_toArray, List.set_cons_zero, List.set_cons_succ]
      refine qv (.bool true) (by kernel_rfl) (fun W => rfl) ?_
      try simp only [Act.put, List.setIfInBounds_toArray, List.set_cons_zero, List.set_cons_succ]
      refine qv (.bool true) (by kernel_rfl) (fun W => rfl) ?_
      try simp only [Act.put, List.setIfInBounds_toArray, List.set_cons_zero, List.set_cons_succ]
      refine qv (.pointer (some ⟨w.heap.size, 4, none⟩)) (by kernel_rfl) (fun W => by go_simp) ?_
      try simp only [Act.put, List.setIfInBounds_toArray, List.set_cons_zero, List.set_cons_succ]
      refine qr (.string ⟨x.t.toArray⟩) (by kernel_rfl) (fun W h => by have := tc W h; go_simp) ?_
      try simp only [Act.put, List.setIfInBounds_toArray, List.set_cons_zero, List.set_cons_succ]
      refine qv (.bool false) (by kernel_rfl) (fun W => by go_simp) ?_
      try simp only [Act.put, List.setIfInBounds_toArray, List.set_cons_zero, List.set_cons_succ]
      refine qv (.bool false) (by kernel_rfl) (fun W => rfl) ?_
      try simp only [Act.put, List.setIfInBounds_toArray, List.set_cons_zero, List.set_cons_succ]
      refine qv (.pointer (some ⟨w.heap.size, 4, none⟩)) (by kernel_rfl) (fun W => by go_simp) ?_
      try simp only [Act.put, List.setIfInBounds_toArray, List.set_cons_zero, List.set_cons_succ]
      refine qr (.string ⟨x.t.toArray⟩) (by kernel_rfl) (fun W h => by have := tc W h; go_simp) ?_
      try simp only [Act.put, List.setIfInBounds_toArray, List.set_cons_zero, List.set_cons_succ]
      refine qc (.bool false) 9 #[.string ⟨x.t.toArray⟩] (by kernel_rfl) (fun W => by go_simp) (fun W h => grown_call h (tagc W)) ?_
      try simp only [Act.put, List.setIfInBounds_toArray, List.set_cons_zero, List.set_cons_succ]
      refine qv (.bool false) (by kernel_rfl) (fun W => rfl) ?_
      try simp only [Act.put, List.setIfInBounds_toArray, List.set_cons_zero, List.set_cons_succ]
      refine qv (.bool false) (by kernel_rfl) (fun W => rfl) ?_
      try simp only [Act.put, List.setIfInBounds_toArray, List.set_cons_zero, List.set_cons_succ]
      refine qv (.bool false) (by kernel_rfl) (fun W => rfl) ?_
      try simp only [Act.put, List.setIfInBounds_toArray, List.set_cons_zero, List.set_cons_succ]
      refine qn (by kernel_rfl) ?_
      try simp only [Act.put, List.setIfInBounds_toArray, List.set_cons_zero, List.set_cons_succ]
      refine qn (by kernel_rfl) ?_
      try simp only [Act.put, List.setIfInBounds_toArray, List.set_cons_zero, List.set_cons_succ]
      refine qn (by kernel_rfl) ?_
      try simp only [Act.put, List.setIfInBounds_toArray, List.set_cons_zero, List.set_cons_succ]
      refine qn (by kernel_rfl) ?_
      try simp only [Act.put, List.setIfInBounds_toArray, List.set_cons_zero, List.set_cons_succ]
      refine qn (by kernel_rfl) ?_
      try simp only [Act.put, List.setIfInBounds_toArray, List.set_cons_zero, List.set_cons_succ]
      refine qn (by kernel_rfl) ?_
      try simp only [Act.put, List.setIfInBounds_toArray, List.set_cons_zero, List.set_cons_succ]
      refine qn (by kernel_rfl) ?_
      try simp only [Act.put, List.setIfInBounds_toArray, List.set_cons_zero, List.set_cons_succ]
      refine qn (by kernel_rfl) ?_
      try simp only [Act.put, List.setIfInBounds_toArray, List.set_cons_zero, List.set_cons_succ]
      refine qn (by kernel_rfl) ?_
      try simp only [Act.put, List.setIfInBounds_toArray, List.set_cons_zero, List.set_cons_succ]
      refine qv (.bool false) (by kernel_rfl) (fun W => rfl) ?_
      try simp only [Act.put, List.setIfInBounds_toArray, List.set_cons_zero, List.set_cons_succ]
      refine wpQuiet_nil fun w9 hb9 => ?_
      have HB9 := Lib.hid hb9
      clear kc tc hk3 hk4 hte tagc ht0
      go_wp2_with fail
      go_meet
      case rel => exact ⟨rfl, HB9.out⟩
  case rest =>
    obtain ⟨rfl, hbc⟩ := hcut
    have HBC : Hid (Below w0.heap.size w0 wc) := HB3.out.trans (hbc.out.mono HB3.out.size)
    have hrz := read_calls s wc (by have := HS.out; omega) (HE0.out.below HBC.out)
    have hRF := read_fit (n := 1048576) (s := s.data.toList) (by have := HS.out; simpa using this)
    have hTR := text_read (s := s.data.toList)
    have hBD := read_bad (s := s.data.toList)
    obtain ⟨⟨z, ez⟩, hzv⟩ : ∃ rv, readV s.data.toList = rv := ⟨_, rfl⟩
    rw [hzv] at hRF hTR hBD hrz
    have hdz := hRF.1.2.2.2.2
    have HRF := Lib.hid hRF
    have HTR := Lib.hid hTR
    have HBD := Lib.hid hBD
    have HRZ := Lib.hid hrz
    clear hrz hRF hTR hBD hzv hbc HRD HRV HRT HTX HRG HRG5 HC3 HO0
    go_upto_region 5 with (first | (go_at_call 8; refine HRZ.out.mono ?_; rintro e w5 ⟨_, rfl, ⟨Bz, c5, rfl, hcz⟩, hb5⟩; have HCZ := Lib.hid hcz; have HB5 := Lib.hid (HBC.out.trans (hb5.mono HBC.out.size)); clear hcz hb5) | ((with_reducible apply wpList_store_op w5.heap.size (c0 := opV zeroOp (.slice none 0 0))); (case hy => rfl); (case hx => rfl); (case hf => exact opV_length _ _ hdz); (case hf0 => exact kindOp_len 0); (case h1 => exact opV_one _ _ rfl); (case hg => exact World.alloc_heap_new _ _)))
    change Code.wp _ _ _ _ ((w5.alloc (.cells (opV zeroOp (.slice none 0 0)).toArray 26)).setRow w5.heap.size (opV z (.slice Bz z.b.length c5)).toArray)
    obtain ⟨hrg7, hb6⟩ := op_stored w5 z (.slice Bz z.b.length c5)
    have HC6 := Lib.hid (HCZ.out.below hb6)
    have HB6 := Lib.hid (HB5.out.trans (hb6.mono HB5.out.size))
    generalize (w5.alloc (.cells (opV zeroOp (.slice none 0 0)).toArray 26)).setRow w5.heap.size (opV z (.slice Bz z.b.length c5)).toArray = w6 at *
    generalize w5.heap.size = g7 at *
    have HRG7 := Lib.hid hrg7
    have HL7 := Lib.hid (opV_length z (.slice Bz z.b.length c5) hdz)
    have HDZ := Lib.hid hdz
    clear hrg7 hb6 hdz HCZ HB5 HRZ HL38 HL5
    by_cases hez : ez = 0
    · have hq : ((ez : Int) == 0) = true := by rw [hez]; rfl
      have htx := text_calls z Bz c5 w6 HRF.out.1 HC6.out HRF.out.2.2 HRF.out.2.1 (HE0.out.below HB6.out).env.1
      rw [(HTR.out hez).1] at htx
      have HX := Lib.hid htx
      have hss : (⟨s.data.toList.toArray⟩ : ByteArray) = s := by cases s; simp
      rw [hss] at HX
      clear hez htx hss
      go_wp2_with (first | ((with_reducible apply wpList_load_opG g7 (opV z (.slice Bz z.b.length c5))); rfl; exact HRG7.out; exact HL7.out; rfl) | (go_at_call 5; refine HX.out.mono ?_; rintro e w7 ⟨rfl, hb7⟩; have HB7 := Lib.hid (HB6.out.trans (hb7.mono HB6.out.size)); clear hb7) | (go_at_call 7; refine (lives_calls _ (HE0.out.below HB7.out)).mono ?_; rintro e w8 ⟨rfl, hb8⟩))
      go_ret
      exact ⟨rfl, HB0.out.trans ((HB7.out.trans (hb8.mono HB7.out.size)).mono HB0.out.size)⟩
    · have hq : ((ez : Int) == 0) = false := by rw [beq_eq_false_iff_ne]; exact hez
      have hq2 : ((ez : Int) != 0) = true := by simpa using hez
      obtain rfl : z = zeroOp := HBD.out hez
      have HX := Lib.hid (same_calls zeroOp Bz none c5 0 w6 zeroD_length HC6.out (fun k v hk => by simp [zeroOp, Lib.byteCells] at hk) (Nat.zero_le _))
      clear hez
      go_wp2_with (first | ((with_reducible apply wpList_load_opG g7 (opV zeroOp (.slice Bz zeroOp.b.length c5))); rfl; exact HRG7.out; exact HL7.out; rfl) | (go_at_call 10; refine HX.out.mono ?_; rintro e w7 ⟨rfl, hb7⟩; have HB7 := Lib.hid (HB6.out.trans (hb7.mono HB6.out.size)); clear hb7) | (go_at_call 7; refine (lives_calls _ (HE0.out.below HB7.out)).mono ?_; rintro e w8 ⟨rfl, hb8⟩))
      go_ret
      exact ⟨rfl, HB0.out.trans ((HB7.out.trans (hb8.mono HB7.out.size)).mono HB0.out.size)⟩
end Go.Proofs.YtjplfkcelkijfaaDoor
