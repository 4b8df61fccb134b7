/- The law LineReads returns true. Condition: a line of at most 1048576 bytes; what lies in variables. -/
import Derived.Test.YtjplfkcelkijfaaGreatDoorVd
namespace Go.Proofs.YtjplfkcelkijfaaGreatDoor
open Go.RowKit

/-- an operation that can be stored, its texts no longer than n -/
def FitB (n : Nat) (x : OpV) : Prop := x.fits ∧ x.t.length ≤ n ∧ x.b.length ≤ n
theorem numV_in (s : List UInt8) : -9223372036854775808 ≤ (numV s).1 ∧ (numV s).1 ≤ 9223372036854775807 := by
  unfold numV
  split
  · exact ⟨by decide, by decide⟩
  · split
    · split
      · exact ⟨by simp only; omega, by simp only; omega⟩
      · exact ⟨by decide, by decide⟩
    · split
      · exact ⟨by simp only; omega, by simp only; omega⟩
      · exact ⟨by decide, by decide⟩
theorem hexP_le (l : List UInt8) : (hexP l).length ≤ l.length := by
  have := hexP_take (l := l) (k := l.length) (Nat.le_refl _)
  rw [List.take_length] at this
  rw [this, List.length_map, List.length_range]
  omega
theorem fitB_zero (n : Nat) (k : Nat) (hk : k ≤ 20) : FitB n (kindOp k) := ⟨⟨⟨by show -9223372036854775808 ≤ (k : Int); omega, by show (k : Int) ≤ _; omega⟩, ⟨by show -9223372036854775808 ≤ (0 : Int); omega, by show (0 : Int) ≤ _; omega⟩, ⟨by show -9223372036854775808 ≤ (0 : Int); omega, by show (0 : Int) ≤ _; omega⟩, ⟨by show -9223372036854775808 ≤ (0 : Int); omega, by show (0 : Int) ≤ _; omega⟩, zeroD_length⟩, Nat.zero_le _, Nat.zero_le _⟩
theorem take_fit {n : Nat} {x : OpV} {p : Nat} {s : List UInt8} (hx : FitB n x) (hs : s.length ≤ n) : FitB n (takeV x p s).1 := by
  obtain ⟨⟨hk, hi, ho, hn, hd⟩, ht, hb⟩ := hx
  have hN := numV_in s
  have htl : s.tail.length ≤ n := by rw [List.length_tail]; omega
  unfold takeV
  split
  · exact ⟨⟨hk, hN, ho, hn, hd⟩, ht, hb⟩
  · exact ⟨⟨hk, hi, hN, hn, hd⟩, ht, hb⟩
  · exact ⟨⟨hk, hi, ho, hN, hd⟩, ht, hb⟩
  · split
    · exact ⟨⟨hk, hi, ho, hn, hd⟩, htl, hb⟩
    · exact ⟨⟨hk, hi, ho, hn, hd⟩, ht, hb⟩
  · split
    · exact ⟨⟨hk, hi, ho, hn, digD_length s⟩, ht, hb⟩
    · exact ⟨⟨hk, hi, ho, hn, hd⟩, ht, hb⟩
  · split
    · exact ⟨⟨hk, hi, ho, hn, hd⟩, ht, Nat.le_trans (hexP_le _) htl⟩
    · exact ⟨⟨hk, hi, ho, hn, hd⟩, ht, hb⟩
theorem takes_fit {n : Nat} : ∀ (ps : List Nat) (ss : List (List UInt8)) (x : OpV), FitB n x → (∀ s ∈ ss, s.length ≤ n) → FitB n (takesV x ps ss).1
  | [], _, _, h, _ => h
  | _ :: _, [], _, h, _ => h
  | p :: ps, s :: ss, x, h, hs => by
    show FitB n (if (takeV x p s).2 ≠ 0 then (zeroOp, (takeV x p s).2) else takesV (takeV x p s).1 ps ss).1
    split
    · exact fitB_zero n 0 (by omega)
    · exact takes_fit ps ss _ (take_fit h (hs s (List.mem_cons_self ..))) fun t ht => hs t (List.mem_cons_of_mem _ ht)
theorem split_le (c : UInt8) (s : List UInt8) : ∀ x ∈ splitC c s, x.length ≤ s.length := by
  induction s with
  | nil => intro x hx; simp [splitC] at hx; subst hx; simp
  | cons y t ih =>
    intro x hx
    have e : splitC c (y :: t) = if y = c then [] :: splitC c t else (y :: (splitC c t).headD []) :: (splitC c t).tail := rfl
    rw [e] at hx
    by_cases hy : y = c
    · rw [if_pos hy] at hx
      rcases List.mem_cons.1 hx with rfl | hx
      · simp
      · have := ih x hx; simp; omega
    · rw [if_neg hy] at hx
      have hne := splitC_ne c t
      cases h : splitC c t with
      | nil => exact absurd h hne
      | cons w ws =>
        rw [h] at hx ih
        simp only [List.headD_cons, List.tail_cons] at hx
        rcases List.mem_cons.1 hx with rfl | hx
        · have := ih w (List.mem_cons_self ..); simp; omega
        · have := ih x (List.mem_cons_of_mem _ hx); simp; omega
theorem read_fit {n : Nat} {s : List UInt8} (hs : s.length ≤ n) : FitB n (readV s).1 := by
  have hw : ∀ x ∈ (splitC 32 s).tail, x.length ≤ n := fun x hx => Nat.le_trans (split_le 32 s x (List.mem_of_mem_tail hx)) hs
  unfold readV
  split
  · exact fitB_zero n 0 (by omega)
  · split
    · exact fitB_zero n 0 (by omega)
    · exact takes_fit _ _ _ (fitB_zero n _ (kindW_le _)) hw
set_option maxHeartbeats 4000000 in
set_option maxRecDepth 100000 in
theorem law_reads (s : ByteArray) (w : World) (hs : s.size ≤ 1048576) (hE : LEnv w) : Calls Tryz.prog 3 #[.string s] w fun e w' => e = .returned (.bool true) ∧ Below w.heap.size w w' := by
  have hrf := read_fit (n := 1048576) (s := s.data.toList) (by simpa using hs)
  have hr1 := read_calls s w (by omega) hE
  have hr2 := fun W => refRead_calls s W (by omega)
  obtain ⟨⟨x, er⟩, hrv⟩ : ∃ rv, readV s.data.toList = rv := ⟨_, rfl⟩
  rw [hrv] at hrf hr1
  simp only [hrv] at hr2
  have hd := hrf.1.2.2.2.2
  have HRF := Lib.hid hrf
  have HR1 := Lib.hid hr1
  have HR2 := Lib.hid hr2
  have HE := Lib.hid hE
  clear hrf hr1 hr2 hE hrv
  go_enter Tryz.func3, Tryz.ntmps3
  go_upto_region 2 with (first | (go_at_call 7; refine HR1.out.mono ?_; rintro e w1 ⟨_, rfl, ⟨B, c2, rfl, hc⟩, hb1⟩; have HC := Lib.hid hc; have HB1 := Lib.hid hb1; clear hb1 hc) | ((with_reducible apply wpList_store_op w1.heap.size (c0 := opV zeroOp (.slice none 0 0))); (case hy => rfl); (case hx => rfl); (case hf => exact opV_length _ _ hd); (case hf0 => exact kindOp_len 0); (case h1 => exact opV_one _ _ rfl); (case hg => exact World.alloc_heap_new _ _)))
  change Code.wp _ _ _ _ ((w1.alloc (.cells (opV zeroOp (.slice none 0 0)).toArray 26)).setRow w1.heap.size (opV x (.slice B x.b.length c2)).toArray)
  obtain ⟨hrg1, hb2⟩ := op_stored w1 x (.slice B x.b.length c2)
  have HC2 := Lib.hid (HC.out.below hb2)
  have HB2 := Lib.hid (HB1.out.trans (hb2.mono HB1.out.size))
  generalize (w1.alloc (.cells (opV zeroOp (.slice none 0 0)).toArray 26)).setRow w1.heap.size (opV x (.slice B x.b.length c2)).toArray = w2 at *
  generalize w1.heap.size = g1 at *
  have HRG1 := Lib.hid hrg1
  clear hrg1 hb2 HC HB1
  go_upto_region 3 with (first | (go_at_call 8; refine (HR2.out _).mono ?_; rintro e w3 ⟨_, rfl, ⟨B2, c3, rfl, hc⟩, hb3⟩; have HC3 := Lib.hid hc; have HB3 := Lib.hid hb3; clear hb3 hc) | ((with_reducible apply wpList_store_op w3.heap.size (c0 := opV zeroOp (.slice none 0 0))); (case hy => rfl); (case hx => rfl); (case hf => exact opV_length _ _ hd); (case hf0 => exact kindOp_len 0); (case h1 => exact opV_one _ _ rfl); (case hg => exact World.alloc_heap_new _ _)))
  change Code.wp _ _ _ _ ((w3.alloc (.cells (opV zeroOp (.slice none 0 0)).toArray 26)).setRow w3.heap.size (opV x (.slice B2 x.b.length c3)).toArray)
  obtain ⟨hrg2, hb4⟩ := op_stored w3 x (.slice B2 x.b.length c3)
  have HC4 := Lib.hid (HC3.out.below hb4)
  have HC5 := Lib.hid ((HC2.out.below HB3.out).below hb4)
  have HRG3 := Lib.hid (rangeAt_below (rangeAt_below HRG1.out HB3.out) hb4)
  have HB4 := Lib.hid (HB2.out.trans ((HB3.out.trans (hb4.mono HB3.out.size)).mono HB2.out.size))
  generalize (w3.alloc (.cells (opV zeroOp (.slice none 0 0)).toArray 26)).setRow w3.heap.size (opV x (.slice B2 x.b.length c3)).toArray = w4 at *
  generalize w3.heap.size = g2 at *
  have HRG2 := Lib.hid hrg2
  have HSM := Lib.hid (same_calls x B B2 c2 c3 w4 hd HC5.out HC4.out (by have := HRF.out.2.2; omega))
  clear hrg2 hb4 HC3 HRG1 HC2 HB3 HC4 HC5
  go_wp2_with (first | ((with_reducible apply wpList_load_opG g1 (opV x (.slice B x.b.length c2))); rfl; exact HRG3.out; exact opV_length _ _ hd; rfl) | ((with_reducible apply wpList_load_opG g2 (opV x (.slice B2 x.b.length c3))); rfl; exact HRG2.out; exact opV_length _ _ hd; rfl) | (go_at_call 9; refine HSM.out.mono ?_; rintro e w5 ⟨rfl, hb5⟩; have HB5 := Lib.hid (HB4.out.trans (hb5.mono HB4.out.size)); clear hb5) | (go_at_call 10; refine (lives_calls _ (HE.out.below HB5.out)).mono ?_; rintro e w6 ⟨rfl, hb6⟩))
  go_ret
  exact ⟨rfl, HB5.out.trans (hb6.mono HB5.out.size)⟩
end Go.Proofs.YtjplfkcelkijfaaGreatDoor
