/- How references and bytes that came in read. No condition. -/
import Derived.Test.YtolaecdopfmbgaaDoorAj
namespace Go.Proofs.YtolaecdopfmbgaaDoor
open Go.ChangeShapes Go.WideShapes Go.ChangeAt Go.RowKit Go.Deep
section
variable {H : Type} {enc : TypeId × Value → H} {w : World} {base : Nat} {spare : Nat → Bool} {held : Bool}

theorem cells39 : Tryd.prog.cellsOf 39 = 32 := by kernel_rfl
theorem cells41 : Tryd.prog.cellsOf 41 = 34 := by kernel_rfl
theorem cells4 : Tryd.prog.cellsOf 4 = 1 := by kernel_rfl
theorem cells3 : Tryd.prog.cellsOf 3 = 1 := by kernel_rfl
theorem byte_of_trod {fuel : Nat} {cs : List Value} {x : DataW H × List MemPlace} (h : DataW.trod enc Tryd.prog w base spare held fuel 5 cs = some x) : ∃ c : UInt8, cs = [.int .u8 c.toNat] := by
  obtain ⟨n, rfl, _, hw⟩ := DataW.trod_int Tryd.underlying5 h
  have := bounds_u8 hw
  refine ⟨UInt8.ofNat n.toNat, ?_⟩
  have e : ((UInt8.ofNat n.toNat).toNat : Int) = n := by
    rw [UInt8.toNat_ofNat']
    omega
  rw [e]
theorem underlying39' : Tryd.prog.underlying 39 = some (.array 32 5) := by kernel_rfl
theorem dig_of_trod {fuel : Nat} {cs : List Value} {x : DataW H × List MemPlace} (h : DataW.trod enc Tryd.prog w base spare held fuel 39 cs = some x) : ∃ d : List UInt8, d.length = 32 ∧ cs = digV d := by
  obtain ⟨xs, m, _, _, hl, hn, hel⟩ := DataW.trod_array underlying39' h
  rw [cells39] at hl
  rw [cells5] at hel
  have hb : ∀ i, i < 32 → ∃ c : UInt8, cs[i]? = some (.int .u8 c.toNat) := fun i hi => by
    have h1 := hel i hi
    obtain ⟨y, hy⟩ : ∃ y, xs[i]? = some y := ⟨_, List.getElem?_eq_getElem (by omega)⟩
    rw [hy] at h1
    obtain ⟨c, hc⟩ := byte_of_trod h1
    refine ⟨c, ?_⟩
    have h2 := congrArg (·[0]?) hc
    simpa [List.getElem?_take, List.getElem?_drop] using h2
  obtain ⟨f, hf⟩ := choose_lt hb
  refine ⟨(List.range 32).map f, by simp, ?_⟩
  apply List.ext_getElem?
  intro i
  by_cases hi : i < 32
  · rw [hf i hi, digV_at (by simp [hi] : ((List.range 32).map f)[i]? = some (f i))]
  · rw [List.getElem?_eq_none (by omega), List.getElem?_eq_none (by simp [digV_length]; omega)]
theorem fields3 {l : List Field} (h : l.map (fun f => (f.name != "_", f.type, f.offset)) = [(true, 4, 0), (true, 39, 1), (true, 3, 33)]) :
    ∃ f0 f1 f2 : Field, l = [f0, f1, f2] ∧ (f0.type = 4 ∧ f0.offset = 0) ∧ (f1.type = 39 ∧ f1.offset = 1) ∧ (f2.type = 3 ∧ f2.offset = 33) := by
  rcases l with _ | ⟨f0, _ | ⟨f1, _ | ⟨f2, _ | ⟨f3, l⟩⟩⟩⟩
  · cases h
  · simp at h
  · simp at h
  · simp only [List.map_cons, List.map_nil, List.cons.injEq, Prod.mk.injEq, and_true] at h
    exact ⟨f0, f1, f2, rfl, h.1.2, h.2.1.2, h.2.2.2⟩
  · simp at h
theorem ref_of_trod {fuel : Nat} {cs : List Value} {x : DataW H × List MemPlace} (h : DataW.trod enc Tryd.prog w base spare held fuel 41 cs = some x) : ∃ r : Rf, r.fits ∧ cs = refV r := by
  obtain ⟨xs, m, _, _, hl, hn, hel⟩ := DataW.trod_struct under41 h
  rw [cells41] at hl
  obtain ⟨f0, f1, f2, hfs, ⟨t0, o0⟩, ⟨t1, o1⟩, t2, o2⟩ := fields3 fields41
  have hfa : (Tryd.prog.fieldsOf 41) = #[f0, f1, f2] := by
    apply Array.ext'
    simpa using hfs
  rw [hfa] at hel hn
  have g0 := hel 0 f0 rfl
  have g1 := hel 1 f1 rfl
  have g2 := hel 2 f2 rfl
  rw [t0, o0, cells4] at g0
  rw [t1, o1, cells39] at g1
  rw [t2, o2, cells3] at g2
  have hn3 : xs.length = 3 := hn
  obtain ⟨y0, e0⟩ : ∃ y, xs[0]? = some y := ⟨_, List.getElem?_eq_getElem (by omega)⟩
  obtain ⟨y1, e1⟩ : ∃ y, xs[1]? = some y := ⟨_, List.getElem?_eq_getElem (by omega)⟩
  obtain ⟨y2, e2⟩ : ∃ y, xs[2]? = some y := ⟨_, List.getElem?_eq_getElem (by omega)⟩
  rw [e0] at g0
  rw [e1] at g1
  rw [e2] at g2
  obtain ⟨b, hb, _⟩ := DataW.trod_bool Tryd.underlying4 g0
  obtain ⟨d, hd, hdd⟩ := dig_of_trod g1
  obtain ⟨n, hnn, _, hw⟩ := DataW.trod_int Tryd.underlying3 g2
  have hbd := bounds_i64 hw
  refine ⟨⟨b, d, n⟩, ⟨hd, hbd.1, hbd.2⟩, ?_⟩
  have s1 : cs = cs.take 1 ++ ((cs.drop 1).take 32 ++ (cs.drop 33).take 1) := by
    have a1 : cs = cs.take 1 ++ cs.drop 1 := (List.take_append_drop 1 cs).symm
    have a2 : cs.drop 1 = (cs.drop 1).take 32 ++ (cs.drop 1).drop 32 := (List.take_append_drop 32 _).symm
    have a3 : (cs.drop 1).drop 32 = (cs.drop 33).take 1 := by
      rw [List.drop_drop, List.take_of_length_le (by rw [List.length_drop]; omega)]
    rw [← a3, ← a2, ← a1]
  rw [s1, hdd, hnn]
  rw [List.drop_zero] at hb
  rw [hb]
  rfl

/-- the cells of an element -/
theorem range_of_cells {b o n : Nat} {cs : List Value} (h : w.cells? base ⟨b, o, none⟩ n = some cs) : w.rangeAt b o cs := fun j v hj => by
  obtain ⟨_, hl, hc⟩ := World.cells?_some h
  have hjl := (List.getElem?_eq_some_iff.1 hj).1
  have := hc j (by omega)
  rw [Addr.add_mid] at this
  rw [this, hj]
theorem spot_of_cells {a : Addr} {n : Nat} {cs : List Value} (h : w.cells? base a n = some cs) (hn : 0 < n) : a.spot = none := by
  obtain ⟨_, hl, hc⟩ := World.cells?_some h
  have h0 := hc 0 hn
  obtain ⟨v, hv⟩ : ∃ v, cs[0]? = some v := ⟨_, List.getElem?_eq_getElem (by omega)⟩
  rw [hv] at h0
  simpa [Addr.add] using World.cell?_spot h0

/-- REFERENCES THAT CAME IN -/
theorem refs_of_trod {fuel : Nat} {cs : List Value} {x : DataW H × List MemPlace} (h : DataW.trod enc Tryd.prog w base spare held fuel 22 cs = some x) :
    ∃ (A : Option Addr) (cap : Nat) (L : List Rf), cs = [.slice A L.length cap] ∧ L.length ≤ cap ∧ RefsIn w A L ∧ (L = [] ∨ ∃ l1 l2, x.1 = .slice l1 l2 ∧ l1.length = L.length) := by
  rcases open_slice Tryd.underlying22 h with ⟨rfl, _⟩ | ⟨a, len, cap, m, n, D, Pl, rfl, _, hlc, _, hm, hxx, hel⟩
  · exact ⟨none, 0, [], rfl, Nat.le_refl _, (fun k r hk => by simp at hk), .inl rfl⟩
  · rw [cells41] at hel
    have hlm : len ≤ m := by rw [hm]; split <;> omega
    have hb : ∀ i, i < len → ∃ r : Rf, r.fits ∧ w.cells? base (a.add (i * 34)) 34 = some (refV r) := fun i hi => by
      obtain ⟨cs', h1, h2⟩ := hel i (by omega)
      obtain ⟨r, hf, rfl⟩ := ref_of_trod h2
      exact ⟨r, hf, h1⟩
    haveI : Inhabited Rf := ⟨zeroR⟩
    obtain ⟨f, hf⟩ := choose_lt hb
    refine ⟨some a, cap, (List.range len).map f, by simp, by simpa using hlc, fun k r hk => ?_, .inr ⟨_, _, by rw [hxx], by simp⟩⟩
    have hk2 := (List.getElem?_eq_some_iff.1 hk).1
    rw [List.length_map, List.length_range] at hk2
    have e : r = f k := by
      rw [List.getElem?_map, List.getElem?_range hk2] at hk
      simpa using hk.symm
    subst e
    obtain ⟨h1, h2⟩ := hf k hk2
    have hs := spot_of_cells (hf 0 (by omega)).2 (by omega)
    obtain ⟨b, o, spot⟩ := a
    have hs2 : spot = none := by simpa [Addr.add] using hs
    subst hs2
    refine ⟨h1, b, o, rfl, ?_⟩
    rw [Addr.add_mid] at h2
    exact range_of_cells h2
/-- BYTES THAT CAME IN -/
theorem bytes_of_trod {fuel : Nat} {cs : List Value} {x : DataW H × List MemPlace} (h : DataW.trod enc Tryd.prog w base spare held fuel 23 cs = some x) :
    ∃ (A : Option Addr) (cap : Nat) (L : List UInt8), cs = [.slice A L.length cap] ∧ L.length ≤ cap ∧ CellsIn w A (Lib.byteCells L) ∧ (L = [] ∨ ∃ l1 l2, x.1 = .slice l1 l2 ∧ l1.length = L.length) := by
  rcases open_slice Tryd.underlying23 h with ⟨rfl, _⟩ | ⟨a, len, cap, m, n, D, Pl, rfl, _, hlc, _, hm, hxx, hel⟩
  · exact ⟨none, 0, [], rfl, Nat.le_refl _, (fun k r hk => by simp [Lib.byteCells] at hk), .inl rfl⟩
  · rw [cells5] at hel
    have hlm : len ≤ m := by rw [hm]; split <;> omega
    have hb : ∀ i, i < len → ∃ c : UInt8, w.cells? base (a.add (i * 1)) 1 = some [.int .u8 c.toNat] := fun i hi => by
      obtain ⟨cs', h1, h2⟩ := hel i (by omega)
      obtain ⟨c, rfl⟩ := byte_of_trod h2
      exact ⟨c, h1⟩
    obtain ⟨f, hf⟩ := choose_lt hb
    refine ⟨some a, cap, (List.range len).map f, by simp, by simpa using hlc, fun k v hk => ?_, .inr ⟨_, _, by rw [hxx], by simp⟩⟩
    have hk2 := (List.getElem?_eq_some_iff.1 hk).1
    rw [Lib.byteCells_length, List.length_map, List.length_range] at hk2
    have e : v = .int .u8 (f k).toNat := by
      rw [Lib.byteCells, List.getElem?_map, List.getElem?_map, List.getElem?_range hk2] at hk
      simpa using hk.symm
    subst e
    have hs := spot_of_cells (hf 0 (by omega)) (by omega)
    obtain ⟨b, o, spot⟩ := a
    have hs2 : spot = none := by simpa [Addr.add] using hs
    subst hs2
    refine ⟨b, o, rfl, ?_⟩
    have h2 := hf k hk2
    rw [Addr.add_mid, Nat.mul_one] at h2
    have := range_of_cells h2 0 _ rfl
    exact this
theorem bytes41 : Tryd.prog.bytesOf 41 = 48 := by kernel_rfl
theorem bytes5 : Tryd.prog.bytesOf 5 = 1 := by kernel_rfl
end
end Go.Proofs.YtolaecdopfmbgaaDoor
