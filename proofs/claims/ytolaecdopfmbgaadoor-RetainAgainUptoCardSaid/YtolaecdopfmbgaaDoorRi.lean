/- slices.Clone, slices.SortFunc, slices.Compact at names in rows of the call's own; version.Row. Condition: at most 1048576 names of at most 1048576 bytes. -/
import Derived.Test.YtolaecdopfmbgaaDoorRh
namespace Go.Proofs.YtolaecdopfmbgaaDoor
open Go.RowKit Go.Shelf Go.Sort

theorem namC_enc (l : List (List UInt8)) : namC l = l.map encStr := rfl
theorem clone_calls (l : List (List UInt8)) (v : Value) (w : World) (hv : NamIn w v l) (hn : l.length ≤ 67108864) :
    Calls Tryd.prog 93 #[v] w fun e w' => ∃ v', e = .returned v' ∧ w'.ownsRow w.heap.size 9 1 v' l.length (namC l) ∧ RowKit.Below w.heap.size w w' := by
  obtain ⟨a, cap, rfl, hc⟩ := hv
  cases l with
  | nil =>
    cases a with
    | none => exact (Tryd.slices_Clone_string_nil 0 cap w).mono fun e w' ⟨he, hw⟩ => ⟨_, he, by rw [hw]; exact World.ownsRow_nil _ _ _ _, by rw [hw]; exact Below.refl _ _⟩
    | some a => exact (Tryd.slices_Clone_string_zero a cap w).mono fun e w' ⟨v', he, ho, _, hb⟩ => ⟨v', he, ho, hb⟩
  | cons x l =>
    obtain ⟨g, off, rfl, _⟩ := hc 0 (by simp)
    have h := Tryd.slices_Clone_string g off (x :: l).length cap ((x :: l).map strV) w (by simp) (by omega) (fun j hj => by
      have hj' : j < (x :: l).length := by simpa using hj
      obtain ⟨g', off', e, h⟩ := hc j hj'
      cases e
      rw [h, List.getD_eq_getElem?_getD, List.getElem?_map, List.getElem?_eq_getElem hj']
      rfl)
    refine h.mono fun e w' ⟨v', he, ho, _, hb⟩ => ⟨v', he, ?_, hb⟩
    have e : (List.map strV (x :: l)).take (x :: l).length = List.map strV (x :: l) := List.take_of_length_le (by simp)
    rw [e, List.map_map] at ho
    exact ho

theorem sort_calls (l : List (List UInt8)) (base : Nat) (v : Value) (w : World) (hv : w.ownsRow base 9 1 v l.length (namC l)) (hl : Small l) (hn : l.length ≤ 67108864) :
    Calls Tryd.prog 94 #[v, .func (.func 67) #[] #[]] w fun e w' => e = .returned (.tuple #[]) ∧ ∃ ts : List (List UInt8), ts.length = l.length ∧ Lib.compact ts = rowV l ∧ w'.ownsRow base 9 1 v ts.length (namC ts) ∧ w.grownBy w' v.ownBlock := by
  have eg : ∀ args w, (callFunc 67 args).run Tryd.prog w = .ok (.enter 67 args) w := enters_of Tryd.func67 (by kernel_rfl) rfl
  by_cases h0 : l = []
  · subst h0
    have hv' := hv
    obtain ⟨_, (⟨rfl, _⟩ | ⟨g, cap, cur, rfl, h3, h4, h5, h6, h7, h8⟩)⟩ := hv
    · exact (Tryd.slices_SortFunc_none (α := Nat) none 0 (.func (.func 67) #[] #[]) w).mono fun e w' ⟨he, hw⟩ => ⟨he, [], rfl, rfl, by rw [hw]; exact hv', by rw [hw]; exact ⟨rfl, rfl, rfl, Nat.le_refl _, fun _ _ _ => rfl⟩⟩
    · exact (Tryd.slices_SortFunc_none (α := Nat) (some ⟨g, 0, none⟩) cap (.func (.func 67) #[] #[]) w).mono fun e w' ⟨he, hw⟩ => ⟨he, [], rfl, rfl, by rw [hw]; exact hv', by rw [hw]; exact ⟨rfl, rfl, rfl, Nat.le_refl _, fun _ _ _ => rfl⟩⟩
  · obtain ⟨hlen, (⟨_, h2⟩ | ⟨g, cap, cur, rfl, h3, h4, h5, h6, h7, h8⟩)⟩ := hv
    · exact absurd (List.eq_nil_of_length_eq_zero h2) h0
    · have hH : Holds encStr w g 0 l.toArray := holds_of_block h4 (by simpa [namC_enc] using h8)
      have hH' : Holds encN w g 0 (toN l hl).toArray := holdsN _ _ _ _ (by
        have e : (toN l hl).toArray.map (·.1) = l.toArray := by rw [List.map_toArray, toN_val]
        rw [e]; exact hH)
      have hz : (toN l hl).toArray.size = l.length := by simp [toN]
      have h := Tryd.slices_SortFunc encN (fun _ => rfl) (fun x y : Nam => verC x.1 y.1) swoN 67 #[] g 0 cap (toN l hl).toArray w eg (cmpLays g 0 _ w) hH' (Array.getElem?_eq_some_iff.1 h4).1 (by rw [hz]; omega)
      rw [hz] at h
      refine h.mono fun e w' ⟨he, d', n, os, hp, hs, hw⟩ => ⟨he, d'.toList.map (·.1), ?_⟩
      obtain ⟨r1, r2⟩ := row_of_sort l hl d' (by rw [hz]; exact hp) (by rw [hz]; exact hs)
      have ew : w' = grow (putRow encStr (Sort.ahead w n) g 0 (d'.toList.map (·.1)).toArray) os := by
        rw [hw]
        unfold sortWorld
        rw [putN]
        congr 2
        apply Array.ext'; simp
      refine ⟨r2, r1, ?_, ?_⟩
      · rw [ew, namC_enc, r2]
        exact ownsRow_sorted (ss := l) r2 h3 h4 h5 h6 h7
      · rw [ew]; exact grownBy_sorted _
theorem compact_nil : Lib.compact ([] : List (List UInt8)) = [] := rfl
theorem compact_calls (ts : List (List UInt8)) (base : Nat) (v : Value) (w : World) (hv : w.ownsRow base 9 1 v ts.length (namC ts)) (hn : ts.length ≤ 67108864) :
    Calls Tryd.prog 95 #[v] w fun e w' => ∃ v', e = .returned v' ∧ w'.ownsRow base 9 1 v' (Lib.compact ts).length (namC (Lib.compact ts)) ∧ w.grownBy w' v.ownBlock := by
  by_cases h0 : ts = []
  · subst h0
    have hv' := hv
    obtain ⟨_, (⟨rfl, _⟩ | ⟨g, cap, cur, rfl, h3, h4, h5, h6, h7, h8⟩)⟩ := hv
    · exact (Tryd.slices_Compact_string_empty none 0 w).mono fun e w' ⟨he, hw⟩ => ⟨_, he, by rw [hw]; exact hv', by rw [hw]; exact ⟨rfl, rfl, rfl, Nat.le_refl _, fun _ _ _ => rfl⟩⟩
    · exact (Tryd.slices_Compact_string_empty (some ⟨g, 0, none⟩) cap w).mono fun e w' ⟨he, hw⟩ => ⟨_, he, by rw [hw]; exact hv', by rw [hw]; exact ⟨rfl, rfl, rfl, Nat.le_refl _, fun _ _ _ => rfl⟩⟩
  · obtain ⟨hlen, (⟨_, h2⟩ | ⟨g, cap, cur, rfl, h3, h4, h5, h6, h7, h8⟩)⟩ := hv
    · exact absurd (List.eq_nil_of_length_eq_zero h2) h0
    · have hH : Holds encStr w g 0 ts.toArray := holds_of_block h4 (by simpa [namC_enc] using h8)
      refine (Tryd.slices_Compact_string g 0 cap ts w hH (by omega) h5).mono fun e w' ⟨he, q, hw⟩ => ⟨_, he, ?_, ?_⟩
      · have hle : (Lib.compact ts).length ≤ ts.length := Lib.compact_length_le ts
        have ew : w' = grow (putRow encStr (Sort.ahead w q) g 0 (Lib.compact ts ++ List.replicate (ts.length - (Lib.compact ts).length) []).toArray) #[] := by rw [grow_empty]; exact hw
        have hl2 : (Lib.compact ts ++ List.replicate (ts.length - (Lib.compact ts).length) []).length = ts.length := by simp; omega
        have htk := take_putCells cur (Lib.compact ts ++ List.replicate (ts.length - (Lib.compact ts).length) []) (by rw [hl2]; omega)
        rw [ew]
        refine ⟨by simp [namC], .inr ⟨g, cap, _, rfl, h3, heap_sorted _ h4, by omega, h6, by simp [putCells, h7], ?_⟩⟩
        have h9 := congrArg (List.take (Lib.compact ts).length) htk
        rw [List.take_take, hl2, Nat.min_eq_left hle, ← List.map_take, List.take_append_of_le_length (by simp), List.take_of_length_le (Nat.le_refl _)] at h9
        rw [Nat.mul_one]
        exact h9
      · have ew : w' = grow (putRow encStr (Sort.ahead w q) g 0 (Lib.compact ts ++ List.replicate (ts.length - (Lib.compact ts).length) []).toArray) #[] := by rw [grow_empty]; exact hw
        rw [ew]; exact grownBy_sorted _

theorem grownBy_below {B : Nat} {w0 w w' : World} {row : Option Nat} (h : RowKit.Below B w0 w) (hg : w.grownBy w' row) (hB : B ≤ w.heap.size) (hr : ∀ k, row = some k → B ≤ k) : RowKit.Below B w0 w' :=
  h.grown hg hB hr
set_option maxHeartbeats 1000000 in
theorem row_calls (l : List (List UInt8)) (v : Value) (w : World) (hv : NamIn w v l) (hl : Small l) (hn : l.length ≤ 67108864) :
    Calls Tryd.prog 66 #[v, .func (.func 67) #[] #[]] w fun e w' => ∃ v', e = .returned v' ∧ w'.ownsRow w.heap.size 9 1 v' (rowV l).length (namC (rowV l)) ∧ RowKit.Below w.heap.size w w' := by
  have H1 := Lib.hid (clone_calls l v w hv hn)
  go_enter Tryd.func66, Tryd.ntmps66
  go_wp2_with fail
  refine H1.out.mono ?_
  rintro e w1 ⟨v1, rfl, o1, b1⟩
  have hlt1 := Lib.hid (World.ownsRow.lt o1)
  have H2 := Lib.hid (sort_calls l _ v1 w1 o1 hl hn)
  have HB1 := Lib.hid b1
  clear o1 b1
  go_wp2_with fail
  refine H2.out.mono ?_
  rintro e w2 ⟨rfl, ts, e1, e2, o2, g2⟩
  have H3 := Lib.hid (compact_calls ts _ v1 w2 o2 (by omega))
  rw [e2] at H3
  have hlt2 := Lib.hid (World.ownsRow.lt o2)
  have G2 := Lib.hid g2
  clear o2 g2 e1 e2
  go_wp2_with fail
  refine H3.out.mono ?_
  rintro e w3 ⟨v3, rfl, o3, g3⟩
  have O3 := Lib.hid o3
  have G3 := Lib.hid g3
  clear o3 g3
  go_wp2_with fail
  go_ret
  have s1 := HB1.out.size
  have s2 := G2.out.size
  exact ⟨_, rfl, O3.out, (HB1.out.grown G2.out s1 (fun k hk => (hlt1.out k hk).1)).grown G3.out (by omega) (fun k hk => (hlt2.out k hk).1)⟩
theorem Row_calls (l : List (List UInt8)) (v : Value) (w : World) (hv : NamIn w v l) (hl : Small l) (hn : l.length ≤ 67108864) :
    Calls Tryd.prog 37 #[v] w fun e w' => ∃ v', e = .returned v' ∧ w'.ownsRow w.heap.size 9 1 v' (rowV l).length (namC (rowV l)) ∧ RowKit.Below w.heap.size w w' := by
  have H1 := Lib.hid (row_calls l v w hv hl hn)
  clear hv hl hn
  go_enter Tryd.func37, Tryd.ntmps37
  go_wp2_with fail
  refine H1.out.mono ?_
  rintro e w1 ⟨v1, rfl, o1, b1⟩
  have O1 := Lib.hid o1
  have B1 := Lib.hid b1
  clear o1 b1
  go_wp2_with fail
  go_ret
  exact ⟨_, rfl, O1.out, B1.out⟩
end Go.Proofs.YtolaecdopfmbgaaDoor
