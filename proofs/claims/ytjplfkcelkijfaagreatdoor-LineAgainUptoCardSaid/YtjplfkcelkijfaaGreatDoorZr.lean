/- What the rows of LineTexts and LineBack lean on: what lies in variables, and how an operation that came in reads. No condition. -/
import Derived.Test.YtjplfkcelkijfaaGreatDoorRows
import Derived.Test.YtjplfkcelkijfaaGreatDoorBulk
import Derived.Test.YtjplfkcelkijfaaGreatDoorVe
import Derived.Lib.LaidTab
import Derived.Stop.LaidErr
import Derived.LaidMore
import Derived.LaidLaws
import Derived.SizedLaws
import Derived.WalkKit
import Derived.ProofKit
import Derived.OpenShut
import Derived.Deep.Slices
import Derived.Deep.Strs
import Derived.Deep.DeepHandedRow
import Derived.Shelf.Vars
namespace Go.Proofs.YtjplfkcelkijfaaGreatDoor
open Go.ChangeShapes Go.WideShapes Go.ChangeAt Go.RowKit Go.Deep
set_option linter.unusedVariables false

theorem own : ownKnob Tryz.prog.godebug = none := by kernel_rfl
theorem laidOut : laidOutB Tryz.prog = true := by kernel_rfl
theorem gPow : Tryz.prog.globalNamed "internal/strconv.uint64pow10" = some 1 := by kernel_rfl
theorem gSyn : Tryz.prog.globalNamed "strconv.ErrSyntax" = some 4 := by kernel_rfl
theorem gRng : Tryz.prog.globalNamed "strconv.ErrRange" = some 5 := by kernel_rfl
theorem tPow : (Tryz.prog.globals[1]?).map (·.type) = some 145 := by kernel_rfl
theorem uPow : ∃ e, Tryz.prog.underlying 145 = some (.array 20 e) ∧ Tryz.prog.underlying e = some (.int .u64) ∧ Tryz.prog.cellsOf e = 1 := ⟨130, by kernel_rfl, by kernel_rfl, by kernel_rfl⟩
theorem cPow : Tryz.prog.cellsOf 145 = 20 := by kernel_rfl
theorem tErr : ∃ t, (Tryz.prog.globals[4]?).map (·.type) = some t ∧ (Tryz.prog.globals[5]?).map (·.type) = some t ∧ ∃ ms, Tryz.prog.underlying t = some (.interface ms) := by
  have h : (match (Tryz.prog.globals[4]?).map (·.type), (Tryz.prog.globals[5]?).map (·.type) with | some t, some u => (t == u) && (match Tryz.prog.underlying t with | some (.interface _) => true | _ => false) | _, _ => false) = true := by kernel_rfl
  cases h4 : (Tryz.prog.globals[4]?).map (·.type) with
  | none => rw [h4] at h; cases h
  | some t =>
    cases h5 : (Tryz.prog.globals[5]?).map (·.type) with
    | none => rw [h4, h5] at h; cases h
    | some u =>
      rw [h4, h5] at h
      simp only [Bool.and_eq_true, beq_iff_eq] at h
      obtain ⟨rfl, h⟩ := h
      refine ⟨t, rfl, rfl, ?_⟩
      cases hq : Tryz.prog.underlying t with
      | none => rw [hq] at h; cases h
      | some d =>
        rw [hq] at h
        cases d <;> first | exact ⟨_, rfl⟩ | (simp at h)
theorem uPtr : Tryz.prog.underlying 165 = some (.pointer 167) := by kernel_rfl
theorem uStr : ∃ f, Tryz.prog.underlying 167 = some (.struct #[f]) ∧ f.type = 9 ∧ f.offset = 0 := by
  have h : (match Tryz.prog.underlying 167 with | some (.struct fs) => fs.toList.map (fun f => (f.type, f.offset)) == [(9, 0)] | _ => false) = true := by kernel_rfl
  cases hq : Tryz.prog.underlying 167 with
  | none => rw [hq] at h; cases h
  | some d =>
    rw [hq] at h
    cases d with
    | struct fs =>
      obtain ⟨l⟩ := fs
      cases l with
      | nil => cases h
      | cons f l =>
        cases l with
        | nil =>
          have h2 : [(f.type, f.offset)] = [(9, 0)] := by simpa using h
          simp only [List.cons.injEq, Prod.mk.injEq, and_true] at h2
          exact ⟨f, rfl, h2.1, h2.2⟩
        | cons g l => exact absurd h (by simp)
    | _ => cases h
theorem cells135 : Tryz.prog.cellsOf 167 = 1 := by kernel_rfl
theorem cells9 : Tryz.prog.cellsOf 9 = 1 := by kernel_rfl
theorem cells3 : Tryz.prog.cellsOf 3 = 1 := by kernel_rfl
theorem cells23 : Tryz.prog.cellsOf 23 = 32 := by kernel_rfl
theorem cells24 : Tryz.prog.cellsOf 24 = 1 := by kernel_rfl
theorem cells26 : Tryz.prog.cellsOf 26 = 38 := by kernel_rfl
theorem star : "*" ++ "errors.errorString" = "*errors.errorString" := by decide
theorem row133 (u : TypeId) (h : Tryz.prog.typeName? 3 u = some "*errors.errorString") : u = 165 :=
  typeName_ptr_named (nm := "errors.errorString") (by rw [star]; kernel_rfl) (by kernel_rfl) (by decide) u (by rw [star]; exact h)
def laid7 : List (String × DataW Unit) := [("math/bits.deBruijn32tab", Rows.laid_math_bits_deBruijn32tab), ("math/bits.deBruijn64tab", Rows.laid_math_bits_deBruijn64tab), ("internal/strconv.uint64pow10", Rows.laid_internal_strconv_uint64pow10), ("unicode/utf8.acceptRanges", Rows.laid_unicode_utf8_acceptRanges), ("strconv.ErrRange", Rows.laid_strconv_ErrRange), ("strconv.ErrSyntax", Rows.laid_strconv_ErrSyntax), ("unicode/utf8.first", Rows.laid_unicode_utf8_first)]
theorem powData : (Rows.laid_internal_strconv_uint64pow10 : DataW Unit) = Lib.tabData .u64 Lib.pow10Tab := by kernel_rfl
theorem env_of {W : World} (h : laidMetH Tryz.prog laid7 W) : Env W := by
  rw [MakeChecks.laidMetH_plain _ _ _ (by kernel_rfl)] at h
  unfold laid7 at h
  have h3 := h.tail.tail
  rw [powData] at h3
  obtain ⟨e, u1, u2, u3⟩ := uPow
  obtain ⟨t, tSyn, tRng, ms, ui⟩ := tErr
  obtain ⟨f, us, hft, hfo⟩ := uStr
  refine ⟨Lib.tabIs_of_head gPow tPow u1 u2 u3 cPow h3, ?_, ?_⟩
  · obtain ⟨a, s, hv, _⟩ := laid_sentinel h3.tail.tail.tail gSyn tSyn ui row133 uPtr us hft hfo Tryz.underlying9 cells135 cells9
    exact ⟨_, _, hv⟩
  · obtain ⟨a, s, hv, _⟩ := laid_sentinel h3.tail.tail gRng tRng ui row133 uPtr us hft hfo Tryz.underlying9 cells135 cells9
    exact ⟨_, _, hv⟩
theorem max_of {W : World} (h : W.ShapedOpen Tryz.prog) : ∃ m, W.cell? ⟨0, 0, none⟩ = some (.int .i64 m) :=
  cell_of_shapedOpen_int (g := 0) (t := 3) (zero := #[.int .i64 0]) h (of_decide_eq_true (by kernel_rfl)) (by kernel_rfl) rfl (by kernel_rfl) (by kernel_rfl) (by kernel_rfl)
theorem lenv_of {W : World} (h : laidMetH Tryz.prog laid7 W) (hs : W.ShapedOpen Tryz.prog) : LEnv W := ⟨env_of h, max_of hs⟩
section
variable {H : Type} {enc : TypeId × Value → H} {w : World} {base : Nat} {spare : Nat → Bool} {held : Bool}
theorem byte_of_trod {fuel : Nat} {cs : List Value} {x : DataW H × List MemPlace} (h : DataW.trod enc Tryz.prog w base spare held fuel 5 cs = some x) : ∃ c : UInt8, cs = [.int .u8 c.toNat] := by
  obtain ⟨n, rfl, _, hw⟩ := DataW.trod_int Tryz.underlying5 h
  have := bounds_u8 hw
  refine ⟨UInt8.ofNat n.toNat, ?_⟩
  have e : ((UInt8.ofNat n.toNat).toNat : Int) = n := by
    rw [UInt8.toNat_ofNat']
    omega
  rw [e]
theorem underlying23' : Tryz.prog.underlying 23 = some (.array 32 5) := by kernel_rfl
theorem dig_of_trod {fuel : Nat} {cs : List Value} {x : DataW H × List MemPlace} (h : DataW.trod enc Tryz.prog w base spare held fuel 23 cs = some x) : ∃ d : List UInt8, d.length = 32 ∧ cs = digV d := by
  obtain ⟨xs, m, _, _, hl, hn, hel⟩ := DataW.trod_array underlying23' h
  rw [cells23] at hl
  rw [cells5] at hel
  have hb : ∀ i, i < 32 → ∃ c : UInt8, cs[i]? = some (.int .u8 c.toNat) := fun i hi => by
    have h1 := hel i hi
    obtain ⟨y, hy⟩ : ∃ y, xs[i]? = some y := ⟨_, List.getElem?_eq_getElem (by omega)⟩
    rw [hy] at h1
    obtain ⟨c, hc⟩ := byte_of_trod h1
    refine ⟨c, ?_⟩
    have h2 := congrArg (·[0]?) hc
    simpa [List.getElem?_take, List.getElem?_drop] using h2
  obtain ⟨f, hf⟩ := choose_lt hb
  refine ⟨(List.range 32).map f, by simp, ?_⟩
  apply List.ext_getElem?
  intro i
  by_cases hi : i < 32
  · rw [hf i hi, digV_at (by simp [hi] : ((List.range 32).map f)[i]? = some (f i))]
  · rw [List.getElem?_eq_none (by omega), List.getElem?_eq_none (by simp [digV_length]; omega)]
theorem range_of_cells {b o n : Nat} {cs : List Value} (h : w.cells? base ⟨b, o, none⟩ n = some cs) : w.rangeAt b o cs := fun j v hj => by
  obtain ⟨_, hl, hc⟩ := World.cells?_some h
  have hjl := (List.getElem?_eq_some_iff.1 hj).1
  have := hc j (by omega)
  rw [Addr.add_mid] at this
  rw [this, hj]
theorem spot_of_cells {a : Addr} {n : Nat} {cs : List Value} (h : w.cells? base a n = some cs) (hn : 0 < n) : a.spot = none := by
  obtain ⟨_, hl, hc⟩ := World.cells?_some h
  have h0 := hc 0 hn
  obtain ⟨v, hv⟩ : ∃ v, cs[0]? = some v := ⟨_, List.getElem?_eq_getElem (by omega)⟩
  rw [hv] at h0
  simpa [Addr.add] using World.cell?_spot h0
/-- BYTES THAT CAME IN -/
theorem bytes_of_trod {fuel : Nat} {cs : List Value} {x : DataW H × List MemPlace} (h : DataW.trod enc Tryz.prog w base spare held fuel 24 cs = some x) :
    ∃ (A : Option Addr) (cap : Nat) (L : List UInt8), cs = [.slice A L.length cap] ∧ L.length ≤ cap ∧ CellsIn w A (Lib.byteCells L) ∧ (L = [] ∨ ∃ l1 l2, x.1 = .slice l1 l2 ∧ l1.length = L.length) := by
  rcases open_slice Tryz.underlying24 h with ⟨rfl, _⟩ | ⟨a, len, cap, m, n, D, Pl, rfl, _, hlc, _, hm, hxx, hel⟩
  · exact ⟨none, 0, [], rfl, Nat.le_refl _, (fun k r hk => by simp [Lib.byteCells] at hk), .inl rfl⟩
  · rw [cells5] at hel
    have hlm : len ≤ m := by rw [hm]; split <;> omega
    have hb : ∀ i, i < len → ∃ c : UInt8, w.cells? base (a.add (i * 1)) 1 = some [.int .u8 c.toNat] := fun i hi => by
      obtain ⟨cs', h1, h2⟩ := hel i (by omega)
      obtain ⟨c, rfl⟩ := byte_of_trod h2
      exact ⟨c, h1⟩
    obtain ⟨f, hf⟩ := choose_lt hb
    refine ⟨some a, cap, (List.range len).map f, by simp, by simpa using hlc, fun k v hk => ?_, .inr ⟨_, _, by rw [hxx], by simp⟩⟩
    have hk2 := (List.getElem?_eq_some_iff.1 hk).1
    rw [Lib.byteCells_length, List.length_map, List.length_range] at hk2
    have e : v = .int .u8 (f k).toNat := by
      rw [Lib.byteCells, List.getElem?_map, List.getElem?_map, List.getElem?_range hk2] at hk
      simpa using hk.symm
    subst e
    have hs := spot_of_cells (hf 0 (by omega)) (by omega)
    obtain ⟨b, o, spot⟩ := a
    have hs2 : spot = none := by simpa [Addr.add] using hs
    subst hs2
    refine ⟨b, o, rfl, ?_⟩
    have h2 := hf k hk2
    rw [Addr.add_mid, Nat.mul_one] at h2
    have := range_of_cells h2 0 _ rfl
    exact this
theorem fields26 : (Tryz.prog.fieldsOf 26).toList.map (fun f => (f.type, f.offset)) = [(3, 0), (3, 1), (3, 2), (3, 3), (9, 4), (23, 5), (24, 37)] := by kernel_rfl
theorem under26 : Tryz.prog.underlying 26 = some (.struct (Tryz.prog.fieldsOf 26)) := by kernel_rfl
theorem cut_at (cs : List Value) (a n : Nat) : cs.drop a = (cs.drop a).take n ++ cs.drop (a + n) := by
  rw [← List.drop_drop, List.take_append_drop]
/-- AN OPERATION THAT CAME IN -/
theorem op_of_trod {fuel : Nat} {cs : List Value} {x : DataW H × List MemPlace} (h : DataW.trod enc Tryz.prog w base spare held fuel 26 cs = some x) :
    ∃ (X : OpV) (A : Option Addr) (cap : Nat), cs = opV X (.slice A X.b.length cap) ∧ X.fits ∧ CellsIn w A (Lib.byteCells X.b) ∧ X.t.length ≤ Rows.uptoBulk x.1 ∧ X.b.length ≤ Rows.uptoBulk x.1 := by
  obtain ⟨xs, m, _, hx, hl, hn, hel⟩ := DataW.trod_struct under26 h
  rw [cells26] at hl
  have hnf : (Tryz.prog.fieldsOf 26).toList.length = 7 := by have := congrArg List.length fields26; simpa using this
  have hn7 : xs.length = 7 := by rw [← hnf, hn]; simp
  have part : ∀ (i t o : Nat), i < 7 → ((Tryz.prog.fieldsOf 26).toList.map (fun f => (f.type, f.offset)))[i]? = some (t, o) → ∃ y, xs[i]? = some y ∧ DataW.trod enc Tryz.prog w base spare held m t ((cs.drop o).take (Tryz.prog.cellsOf t)) = some y := by
    intro i t o hi hf
    rw [List.getElem?_map] at hf
    obtain ⟨f, hf1, hf2⟩ := Option.map_eq_some_iff.1 hf
    obtain ⟨y, hy⟩ : ∃ y, xs[i]? = some y := ⟨_, List.getElem?_eq_getElem (by omega)⟩
    refine ⟨y, hy, ?_⟩
    have := hel i f (by rw [← Array.getElem?_toList]; exact hf1)
    rw [hy] at this
    simp only [Prod.mk.injEq] at hf2
    rw [hf2.1, hf2.2] at this
    exact this
  obtain ⟨y0, g0, p0⟩ := part 0 3 0 (by omega) (by rw [fields26]; rfl)
  obtain ⟨y1, g1, p1⟩ := part 1 3 1 (by omega) (by rw [fields26]; rfl)
  obtain ⟨y2, g2, p2⟩ := part 2 3 2 (by omega) (by rw [fields26]; rfl)
  obtain ⟨y3, g3, p3⟩ := part 3 3 3 (by omega) (by rw [fields26]; rfl)
  obtain ⟨y4, g4, p4⟩ := part 4 9 4 (by omega) (by rw [fields26]; rfl)
  obtain ⟨y5, g5, p5⟩ := part 5 23 5 (by omega) (by rw [fields26]; rfl)
  obtain ⟨y6, g6, p6⟩ := part 6 24 37 (by omega) (by rw [fields26]; rfl)
  rw [cells3] at p0 p1 p2 p3
  rw [cells9] at p4
  rw [cells23] at p5
  rw [cells24] at p6
  obtain ⟨k, e0, _, w0⟩ := DataW.trod_int Tryz.underlying3 p0
  obtain ⟨i, e1, _, w1⟩ := DataW.trod_int Tryz.underlying3 p1
  obtain ⟨o, e2, _, w2⟩ := DataW.trod_int Tryz.underlying3 p2
  obtain ⟨n, e3, _, w3⟩ := DataW.trod_int Tryz.underlying3 p3
  obtain ⟨s, e4, d4, _⟩ := DataW.trod_string Tryz.underlying9 p4
  obtain ⟨d, hd, e5⟩ := dig_of_trod p5
  obtain ⟨A, cap, L, e6, _, hc, hdat⟩ := bytes_of_trod p6
  have bk : ∀ (i : Nat) y, xs[i]? = some y → Rows.uptoBulk y.1 ≤ Rows.uptoBulk x.1 := fun i y hy => by
    have hm : y.1 ∈ xs.map (·.1) := List.mem_map.2 ⟨y, List.mem_of_getElem? hy, rfl⟩
    have := bulks.part_le hm
    rw [hx]
    simp only [Rows.uptoBulk] at this ⊢
    omega
  refine ⟨⟨k, i, o, n, s.data.toList, d, L⟩, A, cap, ?_, ⟨bounds_i64 w0, bounds_i64 w1, bounds_i64 w2, bounds_i64 w3, hd⟩, hc, ?_, ?_⟩
  · have s0 := cut_at cs 0 1
    rw [List.drop_zero] at s0 e0
    rw [s0, cut_at cs 1 1, cut_at cs 2 1, cut_at cs 3 1, cut_at cs 4 1, cut_at cs 5 32, e0, e1, e2, e3, e4, e5]
    have e7 : cs.drop (5 + 32) = [.slice A L.length cap] := by
      rw [← e6, List.take_of_length_le (by rw [List.length_drop]; omega)]
    rw [e7]
    have es : (⟨s.data.toList.toArray⟩ : ByteArray) = s := by cases s; simp
    unfold opV
    simp only [es, List.cons_append, List.nil_append]
  · have := bk 4 y4 g4
    rw [d4] at this
    rw [bulks.string_eq] at this
    show s.data.toList.length ≤ _
    omega
  · have := bk 6 y6 g6
    rcases hdat with rfl | ⟨l1, l2, e1, e2⟩
    · exact Nat.zero_le _
    · have h2 := bulks.slice_le l1 l2
      rw [e1] at this
      show L.length ≤ _
      omega
end
end Go.Proofs.YtjplfkcelkijfaaGreatDoor
