/- The reference's mark and reach: rows of places, for patterns of at most 64 bytes. -/
import Derived.Maps.AppendAt
import Derived.RangeFuncBox
import Derived.Test.YtolaecdopfmbgaaDoorGlS
namespace Go.Proofs.YtolaecdopfmbgaaDoor.Gl
open Go.RowKit

/-- a row of bools lies from a place on -/
def BoolsIn (w : World) (a : Option Addr) (B : List Bool) : Prop :=
  ∀ k b, B[k]? = some b → ∃ g, a = some ⟨g, 0, none⟩ ∧ w.cell? ⟨g, k, none⟩ = some (.bool b)
theorem BoolsIn.below {w w' : World} {a : Option Addr} {B : List Bool} (h : BoolsIn w a B) (hb : Below w.heap.size w w') : BoolsIn w' a B := fun k b hk => by
  obtain ⟨g, rfl, hc⟩ := h k b hk
  exact ⟨g, rfl, (hb.cell (p := ⟨g, k, none⟩) (World.block_lt_of_cell? _ _ hc)).trans hc⟩
theorem boolsIn_of_owns {w : World} {base : Nat} {v : Value} {n : Nat} {B : List Bool} (h : w.ownsRow base 4 1 v n (B.map .bool)) : n = B.length ∧ ∃ a cap, v = .slice a n cap ∧ BoolsIn w a B := by
  obtain ⟨h1, h2⟩ := h
  have hn : n = B.length := by simpa using h1.symm
  refine ⟨hn, ?_⟩
  rcases h2 with ⟨rfl, h2⟩ | ⟨g, cap, cur, rfl, h3, h4, h5, h6, h7, h8⟩
  · have : B = [] := List.eq_nil_of_length_eq_zero (by omega)
    subst this
    exact ⟨none, 0, by rw [h2], fun k x hx => by simp at hx⟩
  · refine ⟨_, _, rfl, fun k b hk => ⟨g, rfl, ?_⟩⟩
    have hlt := (List.getElem?_eq_some_iff.1 hk).1
    rw [cell_of_row _ _ _ _ _ _ h4]
    have : (cur.toList.take (n * 1))[k]? = some (.bool b) := by rw [h8, List.getElem?_map, hk]; rfl
    rw [List.getElem?_take, if_pos (by omega), Array.getElem?_toList] at this
    exact this

def markL (n : Nat) (B : List Bool) (k : Int) : List Bool := (List.range n).map fun (i : Nat) => decide ((i : Int) = k) || B.getD i false
theorem markL_snoc (n : Nat) (B : List Bool) (k : Int) : markL (n + 1) B k = markL n B k ++ [decide ((n : Int) = k) || B.getD n false] := by
  unfold markL; rw [List.range_succ, List.map_append]; rfl
theorem markL_length (n : Nat) (B : List Bool) (k : Int) : (markL n B k).length = n := by simp [markL]

theorem info4 : (Tryd.prog.info? 4).map (fun i => (i.zero, i.size, i.bytes)) = some (some (.bool false), 1, 1) := by kernel_rfl

set_option maxRecDepth 100000 in
set_option maxHeartbeats 1000000 in
theorem mark_calls (p : ByteArray) (a : Option Addr) (cap : Nat) (B : List Bool) (k : Int) (w : World) (hp : p.size ≤ 64) (hB : BoolsIn w a B) (hl : B.length ≤ 65) :
    Calls Tryd.prog 103 #[.string p, .slice a B.length cap, .int .i64 k] w fun e w' => ∃ v, e = .returned v ∧ w'.ownsRow w.heap.size 4 1 v (p.size + 1) ((markL (p.size + 1) B k).map .bool) ∧ Below w.heap.size w w' := by
  obtain ⟨i0, hi, hz0, hz1, hz2⟩ := info_parts info4
  have hp' : (p.size : Int) ≤ 64 := by omega
  have hl' : (B.length : Int) ≤ 65 := by omega
  have HP := Lib.hid hp
  clear hp hl
  go_enter Tryd.func103, Tryd.ntmps103
  go_wp2_with fail
  go_loopw [7, 8] (fun v i wr => ∃ j : Nat, (j : Int) ≤ p.size + 1 ∧ i = .int .i64 j ∧ wr.ownsRow w.heap.size 4 1 v j ((markL j B k).map .bool) ∧ Below w.heap.size w wr) (fun _ i _ => p.size + 1 - (intOf i).toNat)
  case atStart => exact ⟨0, by omega, rfl, World.ownsRow_nil _ _ _ _, Below.refl _ _⟩
  case round =>
    obtain ⟨j, hj, rfl, hrow, hb⟩ := hrel
    have hBr := hB.below hb
    have hsz := hb.size
    have HSN := Lib.hid (markL_snoc j B k)
    by_cases h1 : (j : Int) ≤ p.size
    · by_cases hk : (j : Int) = k
      · have e : ((j : Int) == k) = true := beq_iff_eq.2 hk
        have hv : (decide ((j : Int) = k) || B.getD j false) = true := by rw [decide_eq_true hk]; rfl
        have HV := Lib.hid hv
        clear hv hk
        go_wp2_with (at_builtin; refine wpList_append_own _ rfl _ _ 161 rfl w.heap.size 4 i0 (.bool false) 1 1 Tryd.underlying161 hi hz0 hz1 hz2 rfl (by decide) _ _ _ rfl (hrow.alloc _) ⟨wr.heap.size, 0, none⟩ 1 1 [.bool true] rfl rfl (cell_one_new _ _ _) (by simp [Value.oneCell']) (by unfold maxLen; omega) (by omega) (by simp; omega) ?_; intro v' w1 hown' hgrow _; obtain ⟨g', cap', rfl⟩ := ownsRow_succ hown')
        go_roundw
        case rel =>
          refine ⟨j + 1, by omega, by go_num, ?_, (hb.alloc hsz _).grown hgrow (by simp; omega) (fun r e => (hrow.lt r e).1)⟩
          rw [HSN.out, HV.out, List.map_append]
          exact hown'
        case measure => simp [intOf]; omega
      · have e : ((j : Int) == k) = false := by simpa using hk
        by_cases h2 : j < B.length
        · obtain ⟨b, hb2⟩ : ∃ b, B[j]? = some b := ⟨_, List.getElem?_eq_getElem h2⟩
          obtain ⟨g, rfl, c1⟩ := hBr j b hb2
          have hv : (decide ((j : Int) = k) || B.getD j false) = b := by rw [decide_eq_false hk, Bool.false_or, List.getD_eq_getElem?_getD, hb2]; rfl
          have HV := Lib.hid hv
          clear hv hk hb2 hBr hB
          cases b
          · go_wp2_with (at_builtin; refine wpList_append_own _ rfl _ _ 161 rfl w.heap.size 4 i0 (.bool false) 1 1 Tryd.underlying161 hi hz0 hz1 hz2 rfl (by decide) _ _ _ rfl (hrow.alloc _) ⟨wr.heap.size, 0, none⟩ 1 1 [.bool false] rfl rfl (cell_one_new _ _ _) (by simp [Value.oneCell']) (by unfold maxLen; omega) (by omega) (by simp; omega) ?_; intro v' w1 hown' hgrow _; obtain ⟨g', cap', rfl⟩ := ownsRow_succ hown')
            go_roundw
            case rel =>
              refine ⟨j + 1, by omega, by go_num, ?_, (hb.alloc hsz _).grown hgrow (by simp; omega) (fun r e => (hrow.lt r e).1)⟩
              rw [HSN.out, HV.out, List.map_append]
              exact hown'
            case measure => simp [intOf]; omega
          · go_wp2_with (at_builtin; refine wpList_append_own _ rfl _ _ 161 rfl w.heap.size 4 i0 (.bool false) 1 1 Tryd.underlying161 hi hz0 hz1 hz2 rfl (by decide) _ _ _ rfl (hrow.alloc _) ⟨wr.heap.size, 0, none⟩ 1 1 [.bool true] rfl rfl (cell_one_new _ _ _) (by simp [Value.oneCell']) (by unfold maxLen; omega) (by omega) (by simp; omega) ?_; intro v' w1 hown' hgrow _; obtain ⟨g', cap', rfl⟩ := ownsRow_succ hown')
            go_roundw
            case rel =>
              refine ⟨j + 1, by omega, by go_num, ?_, (hb.alloc hsz _).grown hgrow (by simp; omega) (fun r e => (hrow.lt r e).1)⟩
              rw [HSN.out, HV.out, List.map_append]
              exact hown'
            case measure => simp [intOf]; omega
        · have hv : (decide ((j : Int) = k) || B.getD j false) = false := by rw [decide_eq_false hk, Bool.false_or, List.getD_eq_getElem?_getD, List.getElem?_eq_none (by omega)]; rfl
          have HV := Lib.hid hv
          have h2' : ¬ (j : Int) < B.length := by omega
          clear hv hk h2
          go_wp2_with (at_builtin; refine wpList_append_own _ rfl _ _ 161 rfl w.heap.size 4 i0 (.bool false) 1 1 Tryd.underlying161 hi hz0 hz1 hz2 rfl (by decide) _ _ _ rfl (hrow.alloc _) ⟨wr.heap.size, 0, none⟩ 1 1 [.bool false] rfl rfl (cell_one_new _ _ _) (by simp [Value.oneCell']) (by unfold maxLen; omega) (by omega) (by simp; omega) ?_; intro v' w1 hown' hgrow _; obtain ⟨g', cap', rfl⟩ := ownsRow_succ hown')
          go_roundw
          case rel =>
            refine ⟨j + 1, by omega, by go_num, ?_, (hb.alloc hsz _).grown hgrow (by simp; omega) (fun r e => (hrow.lt r e).1)⟩
            rw [HSN.out, HV.out, List.map_append]
            exact hown'
          case measure => simp [intOf]; omega
    · obtain rfl : j = p.size + 1 := by omega
      go_wp2_with fail
      go_ret
      exact ⟨_, rfl, hrow, hb⟩

theorem owns_set {w : World} {base g n cap : Nat} {B : List Bool} (h : w.ownsRow base 4 1 (.slice (some ⟨g, 0, none⟩) n cap) n (B.map .bool)) (k : Nat) (hk : k < n) :
    base ≤ g ∧ B.length = n ∧ w.cell? ⟨g, k, none⟩ = some (.bool (B.getD k false)) ∧ w.frozen? ⟨g, k, none⟩ = false ∧
      ∀ b : Bool, (w.setCell ⟨g, k, none⟩ (Value.bool b)).ownsRow base 4 1 (.slice (some ⟨g, 0, none⟩) n cap) n ((B.set k b).map Value.bool) := by
  obtain ⟨h1, (⟨h2, _⟩ | ⟨g', cap', cur, h2, h3, h4, h5, h6, h7, h8⟩)⟩ := h
  · cases h2
  · cases h2
    have hn : B.length = n := by simpa using h1
    have hget : ∀ j b, B[j]? = some b → cur[j]? = some (Value.bool b) := fun j b hj => by
      have hlt := (List.getElem?_eq_some_iff.1 hj).1
      have : (cur.toList.take (n * 1))[j]? = some (.bool b) := by rw [h8, List.getElem?_map, hj]; rfl
      rwa [List.getElem?_take, if_pos (by omega), Array.getElem?_toList] at this
    have hb : B[k]? = some (B.getD k false) := by rw [List.getD_eq_getElem?_getD, List.getElem?_eq_getElem (by omega)]; rfl
    refine ⟨h3, hn, ?_, frozen_of_row _ _ _ _ _ h4, fun b => ⟨by simp [hn], .inr ⟨g, cap, _, rfl, h3, heap_setCell_same _ _ _ _ _ _ h4, h5, h6, by simpa using h7, ?_⟩⟩⟩
    · rw [cell_of_row _ _ _ _ _ _ h4]; exact hget k _ hb
    · rw [Array.toList_setIfInBounds, List.take_set, h8, List.map_set]

def reachTo (p : List UInt8) : Nat → List Bool → List Bool
  | 0, B => B
  | i + 1, B => if (reachTo p i B).getD i false && p[i]? == some 42 then (reachTo p i B).set (i + 1) true else reachTo p i B
theorem reachTo_length (p : List UInt8) (B : List Bool) : ∀ i, (reachTo p i B).length = B.length
  | 0 => rfl
  | i + 1 => by
    unfold reachTo
    split
    · rw [List.length_set]; exact reachTo_length p B i
    · exact reachTo_length p B i

set_option maxRecDepth 100000 in
set_option maxHeartbeats 1000000 in
theorem reach_calls (p : ByteArray) (a : Option Addr) (cap : Nat) (B : List Bool) (w : World) (hp : p.size ≤ 64) (hB : BoolsIn w a B) (hl : B.length = p.size + 1) :
    Calls Tryd.prog 102 #[.string p, .slice a B.length cap] w fun e w' => ∃ v, e = .returned v ∧ w'.ownsRow w.heap.size 4 1 v (p.size + 1) ((reachTo p.data.toList p.size B).map .bool) ∧ Below w.heap.size w w' := by
  obtain ⟨i0, hi, hz0, hz1, hz2⟩ := info_parts info4
  obtain ⟨g, rfl, hc0⟩ := hB 0 (B.getD 0 false) (by rw [List.getD_eq_getElem?_getD, List.getElem?_eq_getElem (by omega)]; rfl)
  have hcells : ∀ j u, (B.map Value.bool)[j]? = some u → w.cell? ((⟨g, 0, none⟩ : Addr).add j) = some u := fun j u hj => by
    rw [List.getElem?_map] at hj
    cases hb : B[j]? with
    | none => rw [hb] at hj; cases hj
    | some b =>
      rw [hb] at hj
      obtain ⟨g2, e, hc⟩ := hB j b hb
      cases e
      have hadd : (⟨g, 0, none⟩ : Addr).add j = ⟨g, j, none⟩ := by unfold Addr.add; split <;> simp_all
      rw [hadd, hc]; simpa using hj
  have hp' : (p.size : Int) ≤ 64 := by omega
  have HC := Lib.hid hcells
  have HLL := Lib.hid hl
  have hlb : (B.length : Int) ≤ 65 := by omega
  have HPS := Lib.hid hp
  have h1c : ∀ u ∈ B.map Value.bool, u.oneCell' = true := by
    intro u hu; obtain ⟨b, _, rfl⟩ := List.mem_map.1 hu; rfl
  have H1C := Lib.hid h1c
  clear hp hcells hc0 hB hl h1c
  go_enter Tryd.func102, Tryd.ntmps102
  go_wp2_with (at_builtin; refine wpList_append_own _ rfl _ _ 161 rfl w.heap.size 4 i0 (.bool false) 1 1 Tryd.underlying161 hi hz0 hz1 hz2 rfl (by decide) (.slice none 0 0) 0 [] rfl (World.ownsRow_nil _ _ _ _) ⟨g, 0, none⟩ B.length cap (B.map .bool) rfl (by simp) HC.out H1C.out (by unfold maxLen; omega) (by omega) (Nat.le_refl _) ?_; intro v' w1 hown hgrow _)
  rw [Nat.zero_add, List.nil_append] at hown
  have hb1 : Below w.heap.size w w1 := (Below.refl _ w).grown hgrow (Nat.le_refl _) (fun k e => by cases e)
  rw [HLL.out] at hown
  obtain ⟨g', cap', rfl⟩ := ownsRow_succ hown
  have hown0 : w1.ownsRow w.heap.size 4 1 (.slice (some ⟨g', 0, none⟩) (p.size + 1) cap') (p.size + 1) ((reachTo p.data.toList 0 B).map .bool) := hown
  clear hown hgrow
  go_loopw [6] (fun i wr => ∃ j : Nat, (j : Int) ≤ p.size ∧ i = .int .i64 j ∧ wr.ownsRow w.heap.size 4 1 (.slice (some ⟨g', 0, none⟩) (p.size + 1) cap') (p.size + 1) ((reachTo p.data.toList j B).map .bool) ∧ Below w.heap.size w wr) (fun i _ => p.size - (intOf i).toNat)
  case atStart => exact ⟨0, by omega, rfl, hown0, hb1⟩
  case round =>
    obtain ⟨j, hj, rfl, hrow, hb⟩ := hrel
    by_cases h1 : j < p.size
    · obtain ⟨q1, q2, q3, q4, _⟩ := owns_set hrow j (by omega)
      obtain ⟨_, _, q5, q6, q7⟩ := owns_set hrow (j + 1) (by omega)
      have hR := rfl (a := reachTo p.data.toList (j + 1) B)
      conv at hR => rhs; rw [reachTo]
      have hpj : p.data.toList[j]? = some p[j] := by rw [List.getElem?_eq_getElem (by simpa using h1)]; rfl
      rw [hpj] at hR
      have e := nat_beq (a := p[j]) (n := 42) 42 rfl
      have e' : (some p[j] == some 42) = decide (p[j] = 42) := by rw [Bool.eq_iff_iff]; simp
      rw [e'] at hR
      have q7' := q7 true
      generalize decide (p[j] = 42) = d at *
      have HQ7 := Lib.hid q7'
      have HROW := Lib.hid hrow
      have HR := Lib.hid hR
      have HQ1 := Lib.hid q1
      clear q7 q7' hrow q2 hpj e' hR
      cases hd : (reachTo p.data.toList j B).getD j false
      · rw [hd] at q3
        have HD := Lib.hid hd
        clear hd
        go_wp2
        go_roundw
        case rel => exact ⟨j + 1, by omega, by go_num, (by rw [HR.out, HD.out]; exact HROW.out), hb⟩
        case measure => simp [intOf]; omega
      · rw [hd] at q3
        have HD := Lib.hid hd
        clear hd
        cases d
        · go_wp2
          go_roundw
          case rel => exact ⟨j + 1, by omega, by go_num, (by rw [HR.out, Bool.and_false]; exact HROW.out), hb⟩
          case measure => simp [intOf]; omega
        · go_wp2
          go_roundw
          case rel => exact ⟨j + 1, by omega, by go_num, (by rw [HR.out, HD.out]; exact HQ7.out), hb.setCell HQ1.out _⟩
          case measure => simp [intOf]; omega
    · obtain rfl : j = p.size := by omega
      go_wp2
      go_ret
      exact ⟨_, rfl, hrow, hb⟩
end Go.Proofs.YtolaecdopfmbgaaDoor.Gl
