/- How rules and names that came in read, and what the bound on what is read gives. No condition. -/
import Derived.Test.YtolaecdopfmbgaaDoorBulk
import Derived.Test.YtolaecdopfmbgaaDoorRv
import Derived.Deep.SlicePairs
import Derived.Deep.Slices
import Derived.ProofKit
import Derived.OpenShut
import Derived.Deep.DeepHandedRow
namespace Go.Proofs.YtolaecdopfmbgaaDoor
open Go.ChangeShapes Go.WideShapes Go.ChangeAt Go.RowKit Go.Deep
section
variable {H : Type} {enc : TypeId × Value → H} {w : World} {base : Nat} {spare : Nat → Bool} {held : Bool}

theorem rOwn : ownKnob Tryd.prog.godebug = none := by kernel_rfl
theorem rLaidOut : laidOutB Tryd.prog = true := by kernel_rfl
theorem rCells85 : Tryd.prog.cellsOf 85 = 2 := by kernel_rfl
theorem rCells9 : Tryd.prog.cellsOf 9 = 1 := by kernel_rfl
theorem rCells3 : Tryd.prog.cellsOf 3 = 1 := by kernel_rfl
theorem rUnder45 : Tryd.prog.underlying 45 = some (.slice 85) := by kernel_rfl
theorem rUnder46 : Tryd.prog.underlying 46 = some (.slice 9) := by kernel_rfl
theorem rUnder85 : ∃ f0 f1 : Field, Tryd.prog.underlying 85 = some (.struct #[f0, f1]) ∧ (f0.type = 9 ∧ f0.offset = 0) ∧ f1.type = 3 ∧ f1.offset = 1 := by
  have h : (match Tryd.prog.underlying 85 with | some (.struct fs) => fs.toList.map (fun f => (f.type, f.offset)) | _ => []) = [(9, 0), (3, 1)] := by kernel_rfl
  cases e : Tryd.prog.underlying 85 with
  | none => rw [e] at h; cases h
  | some u =>
    rw [e] at h
    cases u with
    | struct fs =>
      simp only at h
      obtain ⟨fl⟩ := fs
      rcases fl with _ | ⟨f0, _ | ⟨f1, _ | ⟨f2, fl⟩⟩⟩
      · simp at h
      · simp at h
      · simp only [List.map_cons, List.map_nil, List.cons.injEq, Prod.mk.injEq, and_true] at h
        exact ⟨f0, f1, rfl, h.1, h.2⟩
      · simp at h
    | _ => simp at h
theorem spot_of_cell {a : Addr} {v : Value} (h : w.cell? a = some v) : a.spot = none := World.cell?_spot h

theorem rules_of_trod {fuel : Nat} {cs : List Value} {x : DataW H × List MemPlace} (h : DataW.trod enc Tryd.prog w base spare held fuel 45 cs = some x) :
    ∃ (A : Option Addr) (cap : Nat) (R : List Rul), cs = [.slice A R.length cap] ∧ RulIn w (.slice A R.length cap) R ∧ R.length ≤ Rows.uptoBulk x.1 ∧ ∀ r ∈ R, r.1.length ≤ Rows.uptoBulk x.1 ∧ -9223372036854775808 ≤ r.2 ∧ r.2 ≤ 9223372036854775807 := by
  obtain ⟨f0, f1, hu, ⟨t0, o0⟩, t1, o1⟩ := rUnder85
  rcases open_slice_pairs rUnder45 hu rCells85 o0 o1 (by rw [t0]; exact rCells9) (by rw [t1]; exact rCells3) h with ⟨rfl, _⟩ | ⟨a, len, cap, m, n, V0, V1, D0, D1, P0, P1, rfl, _, hlc, _, hm, hxx, hel⟩
  · exact ⟨none, 0, [], rfl, ⟨none, 0, rfl, fun k hk => by simp at hk⟩, Nat.zero_le _, fun r hr => by cases hr⟩
  · rw [t0, t1] at hel
    have hlm : len ≤ m := by rw [hm]; split <;> omega
    have hb : ∀ i, i < len → ∃ r : Rul, (w.cell? (a.add (i * 2)) = some (.string (strV r.1)) ∧ w.cell? (a.add (i * 2 + 1)) = some (.int .i64 r.2)) ∧ D0 i = .lit (.string r.1) ∧ (-9223372036854775808 ≤ r.2 ∧ r.2 ≤ 9223372036854775807) := fun i hi => by
      obtain ⟨h1, h2, h3, h4⟩ := hel i (by omega)
      obtain ⟨s, e1, e2, _⟩ := DataW.trod_string Tryd.underlying9 h3
      obtain ⟨z, e3, e4, hw⟩ := DataW.trod_int Tryd.underlying3 h4
      injection e1 with e1 _
      injection e3 with e3 _
      injection e2 with e2 _
      exact ⟨(s.data.toList, z), ⟨by rw [h1, e1, strV_of], by rw [h2, e3]⟩, e2, bounds_i64 hw⟩
    haveI : Inhabited Rul := ⟨([], 0)⟩
    obtain ⟨f, hf⟩ := choose_lt hb
    have hbk : ∀ i, i < len → (f i).1.length ≤ Rows.uptoBulk x.1 := fun i hi => by
      have e1 : (DataW.agg [D0 i, D1 i] : DataW H) ∈ (List.range len).map fun i => .agg [D0 i, D1 i] := List.mem_map.2 ⟨i, List.mem_range.2 hi, rfl⟩
      have h2 := bulks.part_le e1
      rw [hxx]
      simp only [Rows.uptoBulk, Rows.uptoBulkAll] at h2 ⊢
      rw [(hf i hi).2.1, bulks.string_eq] at h2
      omega
    refine ⟨some a, cap, (List.range len).map f, by simp, ⟨some a, cap, by simp, fun k hk => ?_⟩, ?_, fun r hr => ?_⟩
    · have hk2 : k < len := by simpa using hk
      obtain ⟨h1, h2⟩ := (hf k hk2).1
      have hs := spot_of_cell (hf 0 (by omega)).1.1
      obtain ⟨b, o, spot⟩ := a
      have hs2 : spot = none := by simpa [Addr.add] using hs
      subst hs2
      rw [Addr.add_mid] at h1 h2
      have ek : ((List.range len).map f)[k] = f k := by simp
      rw [ek]
      exact ⟨b, o, rfl, World.block_lt_of_cell? _ _ h1, h1, by rw [Nat.add_assoc]; exact h2⟩
    · rw [hxx]
      have := bulks.slice_le ((List.range len).map fun i => (DataW.agg [D0 i, D1 i] : DataW H)) ((List.range (m - len)).map fun j => .agg [D0 (len + j), D1 (len + j)])
      simp only [List.length_map, List.length_range] at this ⊢
      omega
    · obtain ⟨i, hi, rfl⟩ := List.mem_map.1 hr
      have hi2 := List.mem_range.1 hi
      exact ⟨hbk i hi2, (hf i hi2).2.2⟩

theorem names_of_trod {fuel : Nat} {cs : List Value} {x : DataW H × List MemPlace} (h : DataW.trod enc Tryd.prog w base spare held fuel 46 cs = some x) :
    ∃ (A : Option Addr) (cap : Nat) (l : List (List UInt8)), cs = [.slice A l.length cap] ∧ NamIn w (.slice A l.length cap) l ∧ l.length ≤ Rows.uptoBulk x.1 ∧ ∀ s ∈ l, s.length ≤ Rows.uptoBulk x.1 := by
  rcases open_slice1 rUnder46 rCells9 h with ⟨rfl, _⟩ | ⟨a, len, cap, m, n, V, D, Pl, rfl, _, hlc, _, hm, hxx, hel⟩
  · exact ⟨none, 0, [], rfl, ⟨none, 0, rfl, fun k hk => by simp at hk⟩, Nat.zero_le _, fun r hr => by cases hr⟩
  · have hlm : len ≤ m := by rw [hm]; split <;> omega
    have hb : ∀ i, i < len → ∃ s : List UInt8, w.cell? (a.add i) = some (.string (strV s)) ∧ D i = .lit (.string s) := fun i hi => by
      obtain ⟨h1, h2⟩ := hel i (by omega)
      obtain ⟨s, e1, e2, _⟩ := DataW.trod_string Tryd.underlying9 h2
      injection e1 with e1 _
      injection e2 with e2 _
      exact ⟨s.data.toList, by rw [h1, e1, strV_of], e2⟩
    obtain ⟨f, hf⟩ := choose_lt hb
    have hbk : ∀ i, i < len → (f i).length ≤ Rows.uptoBulk x.1 := fun i hi => by
      have e1 : D i ∈ (List.range len).map D := List.mem_map.2 ⟨i, List.mem_range.2 hi, rfl⟩
      have h2 := bulks.part_le e1
      rw [hxx]
      simp only [Rows.uptoBulk] at h2 ⊢
      rw [(hf i hi).2, bulks.string_eq] at h2
      omega
    refine ⟨some a, cap, (List.range len).map f, by simp, ⟨some a, cap, by simp, fun k hk => ?_⟩, ?_, fun s hs => ?_⟩
    · have hk2 : k < len := by simpa using hk
      obtain ⟨h1, _⟩ := hf k hk2
      have hs := spot_of_cell (hf 0 (by omega)).1
      obtain ⟨b, o, spot⟩ := a
      have hs2 : spot = none := by simpa [Addr.add] using hs
      subst hs2
      rw [Addr.add_mid] at h1
      have ek : ((List.range len).map f)[k] = f k := by simp
      rw [ek]
      exact ⟨b, o, rfl, h1⟩
    · rw [hxx]
      have := bulks.slice_le ((List.range len).map D) ((List.range (m - len)).map fun j => D (len + j))
      simp only [List.length_map, List.length_range] at this ⊢
      omega
    · obtain ⟨i, hi, rfl⟩ := List.mem_map.1 hs
      exact hbk i (List.mem_range.1 hi)
/-- there is an input that fits, at a world that is written out, its listed variables laid -/
theorem witness_row_zip {C : Checked} {os : Os} {f : FuncId} {fn : Func} {s : OpenSpec} {conds : List PathCond} {apart : Bool} {laid : List (String × DataW Unit)} (modest : Bool) (w0 : World) (args : Array Value) (hos : w0.os = os)
    (hsh : (w0.forCall (fun _ _ => 0) ⟨#[], args, []⟩).Shaped C.prog)
    (hok : Input.okWideB C.prog (w0.forCall (fun _ _ => 0) ⟨#[], args, []⟩) f ⟨#[], args, []⟩ = true)
    (hrow : s.preRow enc C.prog fn conds apart laid (w0.forCall (fun _ _ => 0) ⟨#[], args, []⟩).memory args) :
    ∃ (w : World) (tape : Tape) (i : Input), w.os = os ∧ (w.forCall tape i).Shaped C.prog ∧ i.vars = [] ∧ Input.okWide C.prog (w.forCall tape i) .any w.heap.size f i ∧
      s.preRow enc C.prog fn conds apart laid (w.forCall tape i).memory i.args ∧ ({ modest := modest } : Assume).holds C.prog (lone (Frame.enter C.prog f i.args .normal) [] (w.forCall tape i)) :=
  ⟨w0, fun _ _ => 0, ⟨#[], args, []⟩, hos, hsh, (Input.okWide_of_okWideB (base := 0) hok).1, (Input.okWide_of_okWideB hok).2, hrow, by
    simp only [Assume.holds]
    exact ⟨by simp, by simp, fun _ => Modest.zero, by simp, by simp⟩⟩
end
end Go.Proofs.YtolaecdopfmbgaaDoor
