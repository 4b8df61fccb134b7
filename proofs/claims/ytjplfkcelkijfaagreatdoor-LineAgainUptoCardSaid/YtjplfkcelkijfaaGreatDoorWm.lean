/- What stands between blanks: strings.Split, tied to the plain law. Condition: a line of at most 8388608 bytes. -/
import Derived.Lib.Split
import Derived.Test.YtjplfkcelkijfaaGreatDoorWl
namespace Go.Proofs.YtjplfkcelkijfaaGreatDoor
open Go.RowKit

theorem index_hit {c : UInt8} {r : List UInt8} : ∀ a : List UInt8, (∀ x ∈ a, x ≠ c) → Lib.index (a ++ c :: r) [c] = a.length
  | [], _ => by rw [List.nil_append]; unfold Lib.index; rw [if_pos (by simp)]; rfl
  | b :: a, h => by
    have hb : (c == b) = false := by rw [beq_eq_false_iff_ne]; exact fun e => h b (List.mem_cons_self ..) e.symm
    rw [List.cons_append]
    unfold Lib.index
    rw [if_neg (by simp [List.isPrefixOf, hb]), index_hit a fun x hx => h x (List.mem_cons_of_mem _ hx)]
    rw [if_neg (by rw [beq_iff_eq]; omega), List.length_cons]; omega
theorem index_miss {c : UInt8} : ∀ a : List UInt8, (∀ x ∈ a, x ≠ c) → Lib.index a [c] = -1
  | [], _ => rfl
  | b :: a, h => by
    have hb : (c == b) = false := by rw [beq_eq_false_iff_ne]; exact fun e => h b (List.mem_cons_self ..) e.symm
    unfold Lib.index
    rw [if_neg (by simp [List.isPrefixOf, hb]), index_miss a fun x hx => h x (List.mem_cons_of_mem _ hx)]
    rfl
theorem cut_ways (c : UInt8) : ∀ l : List UInt8, (∃ a r, l = a ++ c :: r ∧ ∀ x ∈ a, x ≠ c) ∨ ∀ x ∈ l, x ≠ c
  | [] => .inr fun x hx => by cases hx
  | b :: l => by
    by_cases hb : b = c
    · exact .inl ⟨[], l, by rw [hb]; rfl, fun x hx => by cases hx⟩
    · rcases cut_ways c l with ⟨a, r, rfl, h⟩ | h
      · exact .inl ⟨b :: a, r, rfl, fun x hx => by
          rcases List.mem_cons.1 hx with rfl | hx
          · exact hb
          · exact h x hx⟩
      · exact .inr fun x hx => by
          rcases List.mem_cons.1 hx with rfl | hx
          · exact hb
          · exact h x hx

theorem splitK_C (c : UInt8) : ∀ (n : Nat) (l : List UInt8), l.length ≤ n → Lib.splitK [c] 0 (Lib.count l [c]) l = splitC c l
  | 0, l, h => by
    have : l = [] := List.eq_nil_of_length_eq_zero (by omega)
    subst this
    rw [Lib.count_miss (index_miss [] (fun x hx => by cases hx))]; rfl
  | n + 1, l, h => by
    rcases cut_ways c l with ⟨a, r, rfl, ha⟩ | ha
    · have hi := index_hit (r := r) a ha
      have hdrop : (a ++ c :: r).drop (a.length + 1) = r := by rw [← List.drop_drop, List.drop_left]; rfl
      rw [Lib.count_hit (by simp) hi, Nat.add_comm 1]
      show (if Lib.index (a ++ c :: r) [c] == -1 then _ else _) = _
      rw [hi, if_neg (by rw [beq_iff_eq]; omega)]
      simp only [Int.toNat_natCast, List.length_cons, List.length_nil, Nat.zero_add, Nat.add_zero]
      rw [hdrop, List.take_left, split_hit ha, splitK_C c n r (by simp at h; omega)]
    · rw [Lib.count_miss (index_miss l ha), split_plain ha]; rfl
/-- strings in a row -/
def StrsIn (w : World) (v : Value) (l : List (List UInt8)) : Prop :=
  ∃ a cap, v = .slice a l.length cap ∧ ∀ k x, l[k]? = some x → ∃ g off, a = some ⟨g, off, none⟩ ∧ w.cell? ⟨g, off + k, none⟩ = some (.string ⟨x.toArray⟩)
theorem StrsIn.below {w w' : World} {v : Value} {l : List (List UInt8)} (h : StrsIn w v l) (hb : Below w.heap.size w w') : StrsIn w' v l := by
  obtain ⟨a, cap, rfl, hc⟩ := h
  refine ⟨a, cap, rfl, fun k x hk => ?_⟩
  obtain ⟨g, off, ha, h⟩ := hc k x hk
  exact ⟨g, off, ha, (hb.cell (p := ⟨g, off + k, none⟩) (World.block_lt_of_cell? _ _ h)).trans h⟩
theorem words_calls (s : ByteArray) (c : UInt8) (m : Int) (w : World) (hs : s.size ≤ 8388608) (hm : w.cell? ⟨0, 0, none⟩ = some (.int .i64 m)) :
    Calls Tryz.prog 17 #[.string s, .string ⟨#[c]⟩] w fun e w' => ∃ a, e = .returned (.slice (some a) (splitC c s.data.toList).length (splitC c s.data.toList).length) ∧ StrsIn w' (.slice (some a) (splitC c s.data.toList).length (splitC c s.data.toList).length) (splitC c s.data.toList) ∧ Below w.heap.size w w' := by
  refine (Tryz.strings_Split s ⟨#[c]⟩ m w (by omega) hm (by show 1 ≤ (#[c] : Array UInt8).size; simp)).mono ?_
  rintro e w' ⟨rfl, rfl⟩
  have hd := Lib.splitB_data ⟨#[c]⟩ 0 (Lib.countB s ⟨#[c]⟩) s
  have hc : Lib.countB s ⟨#[c]⟩ = Lib.count s.data.toList [c] := rfl
  rw [show (⟨#[c]⟩ : ByteArray).data.toList = [c] from rfl, hc, splitK_C c _ _ (Nat.le_refl _)] at hd
  have hl := Lib.splitB_all ⟨#[c]⟩ (by show 1 ≤ (#[c] : Array UInt8).size; simp) 0 _ s rfl
  rw [hc] at hl ⊢
  have hlen : (splitC c s.data.toList).length = Lib.count s.data.toList [c] + 1 := by rw [← hd, List.length_map, hl]
  rw [← hlen]
  generalize Lib.splitB ⟨#[c]⟩ 0 (Lib.count s.data.toList [c]) s = L at *
  refine ⟨_, rfl, ⟨_, _, rfl, fun k x hk => ⟨w.heap.size, 0, rfl, ?_⟩⟩, (Below.refl _ _).alloc (Nat.le_refl _) _⟩
  rw [← hd, List.getElem?_map] at hk
  obtain ⟨y, hy, rfl⟩ := Option.map_eq_some_iff.1 hk
  rw [cell_of_row _ _ (0 + k) _ _ _ (World.alloc_heap_new _ _), List.getElem?_toArray, Nat.zero_add, List.getElem?_map, hy]
  rfl
end Go.Proofs.YtjplfkcelkijfaaGreatDoor
