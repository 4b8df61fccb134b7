/- The law GlobPicks of stillagelaw50 returns true, for lists of at most 8796093022207 names of at most 140737488351232 bytes each. -/
import Derived.Test.YtolaecdopfmbgaaX
namespace Go.Proofs.Ytolaecdopfmbgaa
open Go.RowKit

/-- a row of strings lies from a place on -/
def StrsIn (w : World) (a : Option Addr) (L : List ByteArray) : Prop :=
  ∀ k s, L[k]? = some s → ∃ b off, a = some ⟨b, off, none⟩ ∧ b < w.heap.size ∧ w.cell? ⟨b, off + k, none⟩ = some (.string s)
theorem StrsIn.below {w w' : World} {a : Option Addr} {L : List ByteArray} (h : StrsIn w a L) (hb : Below w.heap.size w w') : StrsIn w' a L := fun k s hk => by
  obtain ⟨b, off, rfl, hlt, hc⟩ := h k s hk
  exact ⟨b, off, rfl, Nat.lt_of_lt_of_le hlt hb.size, (hb.cell (p := ⟨b, off + k, none⟩) hlt).trans hc⟩
theorem strsIn_of_owns {w : World} {base : Nat} {v : Value} {n : Nat} {L : List ByteArray} (h : w.ownsRow base 9 1 v n (L.map .string)) : n = L.length ∧ ∃ a cap, v = .slice a n cap ∧ StrsIn w a L := by
  obtain ⟨h1, h2⟩ := h
  have hn : n = L.length := by simpa using h1.symm
  refine ⟨hn, ?_⟩
  rcases h2 with ⟨rfl, h2⟩ | ⟨g, cap, cur, rfl, h3, h4, h5, h6, h7, h8⟩
  · have : L = [] := List.eq_nil_of_length_eq_zero (by omega)
    subst this
    exact ⟨none, 0, by rw [h2], fun k x hx => by simp at hx⟩
  · refine ⟨_, _, rfl, fun k b hk => ⟨g, 0, rfl, lt_of_block h4, ?_⟩⟩
    have hlt := (List.getElem?_eq_some_iff.1 hk).1
    rw [Nat.zero_add, cell_of_row _ _ _ _ _ _ h4]
    have : (cur.toList.take (n * 1))[k]? = some (.string b) := by rw [h8, List.getElem?_map, hk]; rfl
    rw [List.getElem?_take, if_pos (by omega), Array.getElem?_toList] at this
    exact this

theorem info9 : (Try.prog.info? 9).map (fun i => (i.zero, i.size, i.bytes)) = some (some (.string ByteArray.empty), 1, 16) := by kernel_rfl

/-- r21.Texts of one list twice -/
theorem texts_same (A1 A2 : Option Addr) (c1 c2 : Nat) (L : List ByteArray) (w : World) (hl : L.length * 16 ≤ 140737488351232) (h1 : StrsIn w A1 L) (h2 : StrsIn w A2 L) :
    Calls Try.prog 12 #[.slice A1 L.length c1, .slice A2 L.length c2] w fun e w' => e = .returned (.bool true) ∧ ∃ n, w' = w.drewN n := by
  have hl' : (L.length : Int) * 16 ≤ 140737488351232 := by omega
  have H1 := Lib.hid h1
  have H2 := Lib.hid h2
  clear h1 h2 hl
  go_enter Try.func12, Try.ntmps12
  go_wp2_with fail
  go_loopw [5] (fun i wr => ∃ k : Nat, i = .int .i64 k ∧ k ≤ L.length ∧ ∃ n, wr = w.drewN n) (fun i _ => L.length - (intOf i).toNat)
  case atStart => exact ⟨0, rfl, by omega, 0, rfl⟩
  case round =>
    obtain ⟨k, rfl, hk, n, rfl⟩ := hrel
    by_cases h : k < L.length
    · obtain ⟨b1, o1, rfl, _, e1⟩ := H1.out k L[k] (List.getElem?_eq_getElem h)
      obtain ⟨b2, o2, rfl, _, e2⟩ := H2.out k L[k] (List.getElem?_eq_getElem h)
      generalize L[k] = s at *
      go_wp2_with fail
      go_quiet (fail)
      go_wp2
      go_roundw
      case rel => exact ⟨k + 1, by go_num, by omega, n + nq, by first | rfl | rw [World.drewN_drewN]⟩
      case measure => simp [intOf]; omega
    · go_wp2
      go_ret
      exact ⟨rfl, n, rfl⟩

def picksL (p : List UInt8) (L : List ByteArray) : List ByteArray := L.filter fun s => matchG p s.data.toList
theorem picksL_snoc (p : List UInt8) (L : List ByteArray) (k : Nat) (s : ByteArray) (h : L[k]? = some s) : picksL p (L.take (k + 1)) = picksL p (L.take k) ++ if matchG p s.data.toList then [s] else [] := by
  obtain ⟨hk, e⟩ := List.getElem?_eq_some_iff.1 h
  unfold picksL
  rw [List.take_succ_eq_append_getElem hk, List.filter_append, e, List.filter_cons]
  rfl
theorem picksL_le (p : List UInt8) (L : List ByteArray) (k : Nat) : (picksL p (L.take k)).length ≤ k :=
  Nat.le_trans (List.length_filter_le _ _) (List.length_take_le _ _)

set_option maxHeartbeats 1000000 in
theorem pick_calls (p : ByteArray) (A : Option Addr) (cap : Nat) (L : List ByteArray) (w : World) (hp : p.size ≤ 140737488351232) (hl : L.length * 16 ≤ 140737488351232) (hs : ∀ s ∈ L, s.size ≤ 140737488351232) (h : StrsIn w A L) :
    Calls Try.prog 13 #[.string p, .slice A L.length cap] w fun e w' => ∃ v, e = .returned v ∧ w'.ownsRow w.heap.size 9 1 v (picksL p.data.toList L).length ((picksL p.data.toList L).map .string) ∧ Below w.heap.size w w' := by
  obtain ⟨i0, hi, hz0, hz1, hz2⟩ := info_parts info9
  have hl' : (L.length : Int) * 16 ≤ 140737488351232 := by omega
  have H := Lib.hid h
  have HS := Lib.hid hs
  have HLL := Lib.hid hl
  clear h hs hl
  go_enter Try.func13, Try.ntmps13
  go_wp2_with fail
  go_loopw [5, 10] (fun v i wr => ∃ k : Nat, i = .int .i64 k ∧ k ≤ L.length ∧ wr.ownsRow w.heap.size 9 1 v (picksL p.data.toList (L.take k)).length ((picksL p.data.toList (L.take k)).map .string) ∧ Below w.heap.size w wr) (fun _ i _ => L.length - (intOf i).toNat)
  case atStart => exact ⟨0, rfl, by omega, World.ownsRow_nil _ _ _ _, Below.refl _ _⟩
  case round =>
    obtain ⟨k, rfl, hk, hrow, hb⟩ := hrel
    by_cases h : k < L.length
    · have hk0 : L[k]? = some L[k] := List.getElem?_eq_getElem h
      have hsn := picksL_snoc p.data.toList L k _ hk0
      have hle := picksL_le p.data.toList L k
      have hsz := HS.out L[k] (List.getElem_mem h)
      obtain ⟨b1, o1, rfl, _, e1⟩ := (H.out.below hb) k L[k] hk0
      generalize L[k] = s at *
      have hm := fun W => match8_calls p s W hp (by omega)
      generalize picksL p.data.toList (L.take k) = X at *
      cases hd : matchG p.data.toList s.data.toList
      · rw [hd] at hm hsn
        have HM := Lib.hid hm
        have HSN := Lib.hid hsn
        clear hm hsn hd hk0
        go_wp2_with (go_at_call 8; refine (HM.out _).mono ?_; rintro e w3 ⟨rfl, hb3⟩)
        go_roundw
        case rel =>
          have hb4 := hb.trans (hb3.mono hb.size)
          refine ⟨k + 1, by go_num, by omega, ?_, hb4⟩
          rw [HSN.out]
          simpa using Owns.moves (fp := fun _ => False) hrow (Moves.of_below hb3) (fun _ h => h.elim)
        case measure => simp [intOf]; omega
      · rw [hd] at hm hsn
        have HM := Lib.hid hm
        have HSN := Lib.hid hsn
        clear hm hsn hd hk0
        have hrow' := Lib.hid hrow
        clear hrow
        go_wp2_with (first | (go_at_call 8; refine (HM.out _).mono ?_; rintro e w3 ⟨rfl, hb3⟩; have hrow3 := Owns.moves (fp := fun _ => False) hrow'.out (Moves.of_below hb3) (fun _ h => h.elim); have hb4 := hb.trans (hb3.mono hb.size); have hsz4 := hb4.size) | (at_builtin; refine wpList_append_own _ rfl _ _ 29 rfl w.heap.size 9 i0 (.string ByteArray.empty) 1 16 Try.underlying29 hi hz0 hz1 hz2 rfl (by decide) _ _ _ rfl (hrow3.alloc _) ⟨w3.heap.size, 0, none⟩ 1 1 [.string s] rfl rfl (cell_one_new _ _ _) (by simp [Value.oneCell']) (by unfold maxLen; omega) (by omega) (by simp; omega) ?_; intro v' w1 hown' hgrow _; obtain ⟨g', cap', rfl⟩ := ownsRow_succ hown'))
        go_roundw
        case rel =>
          refine ⟨k + 1, by go_num, by omega, ?_, (hb4.alloc hsz4 _).grown hgrow (by simp; omega) (fun r e => (hrow3.lt r e).1)⟩
          rw [HSN.out, if_pos (by trivial), List.length_append, List.map_append]
          exact hown'
        case measure => simp [intOf]; omega
    · obtain rfl : k = L.length := by omega
      rw [List.take_length] at hrow
      go_wp2_with fail
      go_ret
      exact ⟨_, rfl, hrow, hb⟩

set_option maxHeartbeats 1000000 in
theorem globPicks_calls (p : ByteArray) (A : Option Addr) (cap : Nat) (L : List ByteArray) (w : World) (hp : p.size ≤ 140737488351232) (hl : L.length * 16 ≤ 140737488351232) (hs : ∀ s ∈ L, s.size ≤ 140737488351232) (h : StrsIn w A L) :
    Calls Try.prog 5 #[.string p, .slice A L.length cap] w fun e w' => e = .returned (.bool true) ∧ Below w.heap.size w w' := by
  obtain ⟨i0, hi, hz0, hz1, hz2⟩ := info_parts info9
  have hl' : (L.length : Int) * 16 ≤ 140737488351232 := by omega
  have H := Lib.hid h
  have HS := Lib.hid hs
  have HLL := Lib.hid hl
  clear h hs hl
  go_enter Try.func5, Try.ntmps5
  go_wp2_with fail
  go_loopw [5, 6] (fun v i wr => ∃ k : Nat, i = .int .i64 k ∧ k ≤ L.length ∧ wr.ownsRow w.heap.size 9 1 v (picksL p.data.toList (L.take k)).length ((picksL p.data.toList (L.take k)).map .string) ∧ Below w.heap.size w wr) (fun _ i _ => L.length - (intOf i).toNat)
  case atStart => exact ⟨0, rfl, by omega, World.ownsRow_nil _ _ _ _, Below.refl _ _⟩
  case round =>
    obtain ⟨k, rfl, hk, hrow, hb⟩ := hrel
    by_cases h : k < L.length
    · have hk0 : L[k]? = some L[k] := List.getElem?_eq_getElem h
      have hsn := picksL_snoc p.data.toList L k _ hk0
      have hle := picksL_le p.data.toList L k
      have hsz := HS.out L[k] (List.getElem_mem h)
      obtain ⟨b1, o1, rfl, hb1, e1⟩ := (H.out.below hb) k L[k] hk0
      generalize L[k] = s at *
      have hm := fun W => match9_calls p s W hp hsz
      generalize picksL p.data.toList (L.take k) = X at *
      cases hd : matchG p.data.toList s.data.toList
      · rw [hd] at hm hsn
        have HM := Lib.hid hm
        have HSN := Lib.hid hsn
        clear hm hsn hd hk0
        go_wp2_with (go_at_call 9; refine (HM.out _).mono ?_; rintro e w3 ⟨rfl, hb3⟩)
        go_roundw
        case rel =>
          have hb4 := hb.trans (hb3.mono hb.size)
          refine ⟨k + 1, by go_num, by omega, ?_, hb4⟩
          rw [HSN.out]
          simpa using Owns.moves (fp := fun _ => False) hrow (Moves.of_below hb3) (fun _ h => h.elim)
        case measure => simp [intOf]; omega
      · rw [hd] at hm hsn
        have HM := Lib.hid hm
        have HSN := Lib.hid hsn
        clear hm hsn hd hk0
        have hrow' := Lib.hid hrow
        clear hrow
        go_wp2_with (first | (go_at_call 9; refine (HM.out _).mono ?_; rintro e w3 ⟨rfl, hb3⟩; have hrow3 := Owns.moves (fp := fun _ => False) hrow'.out (Moves.of_below hb3) (fun _ h => h.elim); have hb4 := hb.trans (hb3.mono hb.size); have hsz4 := hb4.size; have e3 := (hb3.cell (p := ⟨b1, o1 + k, none⟩) hb1).trans e1) | (at_builtin; refine wpList_append_own _ rfl _ _ 29 rfl w.heap.size 9 i0 (.string ByteArray.empty) 1 16 Try.underlying29 hi hz0 hz1 hz2 rfl (by decide) _ _ _ rfl (hrow3.alloc _) ⟨w3.heap.size, 0, none⟩ 1 1 [.string s] rfl rfl (cell_one_new _ _ _) (by simp [Value.oneCell']) (by unfold maxLen; omega) (by omega) (by simp; omega) ?_; intro v' w1 hown' hgrow _; obtain ⟨g', cap', rfl⟩ := ownsRow_succ hown'))
        go_roundw
        case rel =>
          refine ⟨k + 1, by go_num, by omega, ?_, (hb4.alloc hsz4 _).grown hgrow (by simp; omega) (fun r e => (hrow3.lt r e).1)⟩
          rw [HSN.out, if_pos (by trivial), List.length_append, List.map_append]
          exact hown'
        case measure => simp [intOf]; omega
    · obtain rfl : k = L.length := by omega
      rw [List.take_length] at hrow
      have hpk := pick_calls p A cap L wr hp HLL.out HS.out (H.out.below hb)
      have hle : (picksL p.data.toList L).length ≤ L.length := List.length_filter_le _ _
      generalize picksL p.data.toList L = X at *
      obtain ⟨_, a1, c1, rfl, hX⟩ := strsIn_of_owns hrow
      have HPK := Lib.hid hpk
      have HX := Lib.hid hX
      clear hpk hX hrow
      go_wp2_with fail
      refine HPK.out.mono ?_
      rintro e w3 ⟨v, rfl, hrow3, hb3⟩
      obtain ⟨_, a2, c2, rfl, hX2⟩ := strsIn_of_owns hrow3
      have HX2 := Lib.hid hX2
      clear hX2 hrow3
      go_wp2_with fail
      refine (texts_same a2 a1 c2 c1 X w3 (by omega) HX2.out (HX.out.below hb3)).mono ?_
      rintro e w4 ⟨rfl, n, rfl⟩
      go_wp2_with (go_at_call 10; refine (lives_calls _).mono ?_; rintro e w5 ⟨rfl, hb5⟩)
      go_ret
      exact ⟨rfl, hb.trans ((hb3.trans ((below_drewN (Below.refl _ w3) n).trans (hb5.mono (by exact Nat.le_refl _)) |>.mono hb3.size)).mono hb.size)⟩
end Go.Proofs.Ytolaecdopfmbgaa
