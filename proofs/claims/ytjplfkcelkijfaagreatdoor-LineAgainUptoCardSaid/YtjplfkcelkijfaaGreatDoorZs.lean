/- How a reply that came in reads. No condition. -/
import Derived.Test.YtjplfkcelkijfaaGreatDoorZr
import Derived.Test.YtjplfkcelkijfaaGreatDoorVh
import Derived.Deep.SlicePairs
namespace Go.Proofs.YtjplfkcelkijfaaGreatDoor
open Go.ChangeShapes Go.WideShapes Go.ChangeAt Go.RowKit Go.Deep
set_option linter.unusedVariables false

theorem cells27 : Tryz.prog.cellsOf 27 = 1 := by kernel_rfl
theorem cells35 : Tryz.prog.cellsOf 35 = 1 := by kernel_rfl
theorem cells37 : Tryz.prog.cellsOf 37 = 38 := by kernel_rfl
theorem und27 : Tryz.prog.underlying 27 = some (.int .i64) := by kernel_rfl
theorem und35 : Tryz.prog.underlying 35 = some (.slice 9) := by kernel_rfl
theorem fields37 : (Tryz.prog.fieldsOf 37).toList.map (fun f => (f.type, f.offset)) = [(27, 0), (3, 1), (3, 2), (3, 3), (23, 4), (24, 36), (35, 37)] := by kernel_rfl
theorem underR37 : Tryz.prog.underlying 37 = some (.struct (Tryz.prog.fieldsOf 37)) := by kernel_rfl
theorem bulk_join {H : Type} (c : UInt8) : ∀ l : List (List UInt8), (joinC c l).length ≤ Rows.uptoBulkAll (l.map fun s => (DataW.lit (.string s) : DataW H))
  | [] => Nat.zero_le _
  | [w] => by
    simp only [List.map_cons, List.map_nil, Rows.uptoBulkAll, bulks.string_eq]
    show w.length ≤ _; omega
  | w :: v :: r => by
    have ih := bulk_join (H := H) c (v :: r)
    have e : (joinC c (w :: v :: r)).length = w.length + ((joinC c (v :: r)).length + 1) := by show (w ++ c :: joinC c (v :: r)).length = _; simp
    rw [e, List.map_cons, Rows.uptoBulkAll, bulks.string_eq]
    omega
section
variable {H : Type} {enc : TypeId × Value → H} {w : World} {base : Nat} {spare : Nat → Bool} {held : Bool}
theorem names_of_trod {fuel : Nat} {cs : List Value} {x : DataW H × List MemPlace} (h : DataW.trod enc Tryz.prog w base spare held fuel 35 cs = some x) :
    ∃ (A : Option Addr) (cap : Nat) (l : List (List UInt8)), cs = [.slice A l.length cap] ∧ StrsIn w (.slice A l.length cap) l ∧ l.length ≤ cap ∧ l.length ≤ Rows.uptoBulk x.1 ∧ (joinC 44 l).length ≤ Rows.uptoBulk x.1 := by
  rcases open_slice1 und35 cells9 h with ⟨rfl, _⟩ | ⟨a, len, cap, m, n, V, D, Pl, rfl, _, hlc, _, hm, hxx, hel⟩
  · exact ⟨none, 0, [], rfl, ⟨none, 0, rfl, fun k x hk => by simp at hk⟩, Nat.le_refl _, Nat.zero_le _, Nat.zero_le _⟩
  · have hlm : len ≤ m := by rw [hm]; split <;> omega
    have hb : ∀ i, i < len → ∃ s : List UInt8, w.cell? (a.add i) = some (.string ⟨s.toArray⟩) ∧ D i = .lit (.string s) := fun i hi => by
      obtain ⟨h1, h2⟩ := hel i (by omega)
      obtain ⟨s, e1, e2, _⟩ := DataW.trod_string Tryz.underlying9 h2
      injection e1 with e1 _
      injection e2 with e2 _
      refine ⟨s.data.toList, ?_, e2⟩
      rw [h1, e1]
    obtain ⟨f, hf⟩ := choose_lt hb
    have hmap : (List.range len).map D = ((List.range len).map f).map fun s => .lit (.string s) := by
      rw [List.map_map]
      apply List.map_congr_left
      intro i hi
      exact (hf i (List.mem_range.1 hi)).2
    have h1 := bulks.slice_le ((List.range len).map D) ((List.range (m - len)).map fun j => D (len + j))
    have h2 := bulks.slice_elems ((List.range len).map D) ((List.range (m - len)).map fun j => D (len + j))
    have h3 := bulk_join (H := H) 44 ((List.range len).map f)
    rw [← hmap] at h3
    refine ⟨some a, cap, (List.range len).map f, by simp, ⟨some a, cap, by simp, fun k x hk => ?_⟩, by simpa using hlc, ?_, ?_⟩
    · have hk2 := (List.getElem?_eq_some_iff.1 hk).1
      rw [List.length_map, List.length_range] at hk2
      have e : x = f k := by
        rw [List.getElem?_map, List.getElem?_range hk2] at hk
        simpa using hk.symm
      subst e
      obtain ⟨h1, _⟩ := hf k hk2
      have hs : a.spot = none := by
        have := World.cell?_spot (hf 0 (by omega)).1
        simpa [Addr.add] using this
      obtain ⟨b, o, spot⟩ := a
      have hs2 : spot = none := hs
      subst hs2
      rw [Addr.add_mid] at h1
      exact ⟨b, o, rfl, h1⟩
    · rw [hxx]
      simp only [List.length_map, List.length_range] at h1 ⊢
      omega
    · rw [hxx]
      show _ ≤ Rows.uptoBulk (DataW.slice _ _)
      omega
/-- A REPLY THAT CAME IN -/
theorem reply_of_trod {fuel : Nat} {cs : List Value} {x : DataW H × List MemPlace} (h : DataW.trod enc Tryz.prog w base spare held fuel 37 cs = some x) (hsm : Rows.uptoBulk x.1 ≤ 1048576) :
    ∃ (r : RepV) (A : Option Addr) (c1 : Nat) (A2 : Option Addr) (c2 : Nat), cs = repS r A c1 A2 c2 ∧ RepOk w r A c1 A2 c2 := by
  obtain ⟨xs, m, _, hx, hl, hn, hel⟩ := DataW.trod_struct underR37 h
  rw [cells37] at hl
  have hnf : (Tryz.prog.fieldsOf 37).toList.length = 7 := by have := congrArg List.length fields37; simpa using this
  have hn7 : xs.length = 7 := by rw [← hnf, hn]; simp
  have part : ∀ (i t o : Nat), i < 7 → ((Tryz.prog.fieldsOf 37).toList.map (fun f => (f.type, f.offset)))[i]? = some (t, o) → ∃ y, xs[i]? = some y ∧ DataW.trod enc Tryz.prog w base spare held m t ((cs.drop o).take (Tryz.prog.cellsOf t)) = some y := by
    intro i t o hi hf
    rw [List.getElem?_map] at hf
    obtain ⟨f, hf1, hf2⟩ := Option.map_eq_some_iff.1 hf
    obtain ⟨y, hy⟩ : ∃ y, xs[i]? = some y := ⟨_, List.getElem?_eq_getElem (by omega)⟩
    refine ⟨y, hy, ?_⟩
    have := hel i f (by rw [← Array.getElem?_toList]; exact hf1)
    rw [hy] at this
    simp only [Prod.mk.injEq] at hf2
    rw [hf2.1, hf2.2] at this
    exact this
  obtain ⟨y0, g0, p0⟩ := part 0 27 0 (by omega) (by rw [fields37]; rfl)
  obtain ⟨y1, g1, p1⟩ := part 1 3 1 (by omega) (by rw [fields37]; rfl)
  obtain ⟨y2, g2, p2⟩ := part 2 3 2 (by omega) (by rw [fields37]; rfl)
  obtain ⟨y3, g3, p3⟩ := part 3 3 3 (by omega) (by rw [fields37]; rfl)
  obtain ⟨y4, g4, p4⟩ := part 4 23 4 (by omega) (by rw [fields37]; rfl)
  obtain ⟨y5, g5, p5⟩ := part 5 24 36 (by omega) (by rw [fields37]; rfl)
  obtain ⟨y6, g6, p6⟩ := part 6 35 37 (by omega) (by rw [fields37]; rfl)
  rw [cells27] at p0
  rw [cells3] at p1 p2 p3
  rw [cells23] at p4
  rw [cells24] at p5
  rw [cells35] at p6
  obtain ⟨e, e0, _, w0⟩ := DataW.trod_int und27 p0
  obtain ⟨i, e1, _, w1⟩ := DataW.trod_int Tryz.underlying3 p1
  obtain ⟨k, e2, _, w2⟩ := DataW.trod_int Tryz.underlying3 p2
  obtain ⟨n, e3, _, w3⟩ := DataW.trod_int Tryz.underlying3 p3
  obtain ⟨d, hd, e4⟩ := dig_of_trod p4
  obtain ⟨A, c1, L, e5, _, hc, hdat⟩ := bytes_of_trod p5
  obtain ⟨A2, c2, l, e6, hs, hcap, hll, hjl⟩ := names_of_trod p6
  have bk : ∀ (i : Nat) y, xs[i]? = some y → Rows.uptoBulk y.1 ≤ Rows.uptoBulk x.1 := fun i y hy => by
    have hm : y.1 ∈ xs.map (·.1) := List.mem_map.2 ⟨y, List.mem_of_getElem? hy, rfl⟩
    have := bulks.part_le hm
    rw [hx]
    simp only [Rows.uptoBulk] at this ⊢
    omega
  have b5 := bk 5 y5 g5
  have b6 := bk 6 y6 g6
  refine ⟨⟨e, i, k, n, d, L, l⟩, A, c1, A2, c2, ?_, ⟨bounds_i64 w0, bounds_i64 w1, bounds_i64 w2, bounds_i64 w3, hd⟩, hc, hs, hcap, ?_, ?_, ?_⟩
  · have s0 := cut_at cs 0 1
    rw [List.drop_zero] at s0 e0
    rw [s0, cut_at cs 1 1, cut_at cs 2 1, cut_at cs 3 1, cut_at cs 4 32, cut_at cs 36 1, e0, e1, e2, e3, e4, e5]
    have e7 : cs.drop (36 + 1) = [.slice A2 l.length c2] := by
      rw [← e6, List.take_of_length_le (by rw [List.length_drop]; omega)]
    rw [e7]
    unfold repS repV
    simp only [List.cons_append, List.nil_append]
  · rcases hdat with rfl | ⟨l1, l2, f1, f2⟩
    · exact Nat.zero_le _
    · have h2 := bulks.slice_le l1 l2
      rw [f1] at b5
      show L.length ≤ _
      omega
  · show l.length ≤ _; omega
  · show (joinC 44 l).length ≤ _; omega
end
end Go.Proofs.YtjplfkcelkijfaaGreatDoor
