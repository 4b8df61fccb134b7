/- glob.class returns the set of a class and whether it is one, for every string of at most 140737488351232 bytes; nothing that was there changes. -/
import Derived.Deep.DeepCutAuto
import Derived.Deep.LoopGhost
import Derived.Test.YtolaecdopfmbgaaDoorGlB
namespace Go.Proofs.YtolaecdopfmbgaaDoor.Gl
open Go.RowKit

/-- bytes from a to b are added -/
def addRange (f : Nat → Bool) (a b : Nat) : Nat → Bool := fun j => f j || (decide (a ≤ j) && decide (j ≤ b))
def classSet : List UInt8 → (Nat → Bool) → Option (Nat → Bool)
  | [], f => some f
  | a :: 45 :: b :: r, f => if b < a then none else classSet r (addRange f a.toNat b.toNat)
  | a :: r, f => classSet r (addRange f a.toNat a.toNat)
def classG (s : List UInt8) : (Nat → Bool) × Bool :=
  match classSet (Lib.trimPrefix s [94]) noBytes with
  | none => (noBytes, false)
  | some f => (fun c => f c != Lib.hasPrefix s [94], !(Lib.trimPrefix s [94]).isEmpty)

/-- two new parts: the answer's, and the one that is filled -/
def TwoParts (w : World) (f : Nat → Bool) (wr : World) : Prop :=
  wr.heap[w.heap.size]? = some (.cells (partCells false noBytes) 138) ∧ wr.heap[w.heap.size + 1]? = some (.cells (partCells false f) 138) ∧ Below w.heap.size w wr

theorem built138 (ρ : Operand → Value) : Tryd.prog.built 138 ((#[] : Array (Nat × Operand)).map fun (i, x) => (i, ρ x)).toList = some (partCells false noBytes) := by kernel_rfl
/-- a part of nothing -/
theorem wpList_build_part {ops : Array Oper} {rest : List Oper} {a : Act} {w : World} {Q : Exit → Act → World → Prop} {d : Tmp} {ty : TypeId} {pos : String} {after : Array Edge}
    (h : wpList Tryd.prog ops Q rest (a.put (some d) (.agg (partCells false noBytes))) w) :
    wpList Tryd.prog ops Q ({ dst := some d, op := .build 138 #[], type := ty, pos := pos, after := after, guard := none } :: rest) a w := by
  have e := built138 a.eval
  exact wpList_build rfl 138 #[] rfl (by rw [e]; rfl) (by rw [e]; exact h)

theorem TwoParts.set {w wr : World} {f : Nat → Bool} (h : TwoParts w f wr) (i : Nat) (b : Bool) (hi : i < 256) : TwoParts w (upd f i b) (wr.setCell ⟨w.heap.size + 1, 1 + i, none⟩ (.bool b)) := by
  obtain ⟨h1, h2, h3⟩ := h
  refine ⟨?_, ?_, h3.setCell (by simp) _⟩
  · rw [heap_setCell_other _ _ _ _ (by simp)]; exact h1
  · rw [heap_setCell_same _ _ _ _ _ _ h2, partCells_set _ _ _ _ hi]
theorem TwoParts.congr {w wr : World} {f g : Nat → Bool} (h : TwoParts w f wr) (e : ∀ i, i < 256 → f i = g i) : TwoParts w g wr := by
  obtain ⟨h1, h2, h3⟩ := h
  exact ⟨h1, by rw [h2, partCells_congr _ f g e], h3⟩
theorem TwoParts.drew {w wr : World} {f : Nat → Bool} (h : TwoParts w f wr) : TwoParts w f wr.drew := ⟨h.1, h.2.1, h.2.2.drew⟩
theorem TwoParts.drewN {w wr : World} {f : Nat → Bool} (h : TwoParts w f wr) (n : Nat) : TwoParts w f (wr.drewN n) := ⟨h.1, h.2.1, below_drewN h.2.2 n⟩
theorem TwoParts.cell {w wr : World} {f : Nat → Bool} (h : TwoParts w f wr) (i : Nat) (hi : i < 256) : wr.cell? ⟨w.heap.size + 1, 1 + i, none⟩ = some (.bool (f i)) ∧ wr.frozen? ⟨w.heap.size + 1, 1 + i, none⟩ = false := by
  obtain ⟨h1, h2, h3⟩ := h
  exact ⟨by rw [cell_of_row _ _ _ _ _ _ h2, partCells_at _ _ _ hi], frozen_of_row _ _ _ _ _ h2⟩

theorem results_part2 {fn : Func} {p q : Tmp} (h : fn.results = #[.cell p 138, .tmp q]) (tmps : Array Value) (w : World) (g : Nat) (m : Bool) (f : Nat → Bool)
    (hp : tmps.getD p undef = .pointer (some ⟨g, 0, none⟩)) (hg : w.heap[g]? = some (.cells (partCells m f) 138)) : (results fn tmps).run Tryd.prog w = .ok (.tuple #[.agg (partCells m f), tmps.getD q undef]) w := by
  have hp' : tmps[p]?.getD undef = .pointer (some ⟨g, 0, none⟩) := by simpa using hp
  have hl := run_loadVar_row (P := Tryd.prog) w g 138 138 (partCells m f) (0, 0) _ hg Tryd.underlying138 rfl (size138 m f)
  simp [results, h, hp', asAddr, hl]
theorem TwoParts.fill {w wr : World} {f : Nat → Bool} (h : TwoParts w f wr) (g : Nat → Bool) : (wr.setRow w.heap.size (partCells false g)).heap[w.heap.size]? = some (.cells (partCells false g) 138) ∧ Below w.heap.size w (wr.setRow w.heap.size (partCells false g)) := by
  obtain ⟨h1, h2, h3⟩ := h
  refine ⟨setRow_heap wr _ _ _ 138 _ h1, h3.trans ⟨rfl, rfl, rfl, by simp, fun k hk => setRow_other wr _ _ _ (by omega)⟩⟩
theorem u8_eq {b : UInt8} {n : Int} (c : UInt8) (h : ((b.toNat : Int) == n) = true) (hc : n = c.toNat) : b = c := by
  apply UInt8.toNat_inj.1
  have := beq_iff_eq.1 h
  omega
theorem u8_ne {b : UInt8} {n : Int} (c : UInt8) (h : ¬ ((b.toNat : Int) == n) = true) (hc : n = c.toNat) : b ≠ c := by
  rintro rfl
  exact h (beq_iff_eq.2 hc.symm)
theorem classSet_one (a : UInt8) (r : List UInt8) (f : Nat → Bool) (h : ∀ b r', r ≠ 45 :: b :: r') : classSet (a :: r) f = classSet r (addRange f a.toNat a.toNat) := by
  rw [classSet]
  exact h
theorem drop_cons (t : ByteArray) (k : Nat) (h : k < t.size) : t.data.toList.drop k = t[k] :: t.data.toList.drop (k + 1) := by
  rw [List.drop_eq_getElem_cons (by simpa using h)]; rfl
theorem byte_lt (t : ByteArray) (k : Nat) (h : k < t.size) : (t[k].toNat : Int) < 256 := by have := t[k].toNat_lt; omega

set_option maxHeartbeats 1000000 in
theorem class_calls (s : ByteArray) (w : World) (hs : s.size ≤ 140737488351232) :
    Calls Tryd.prog 108 #[.string s] w fun e w' => e = .returned (.tuple #[.agg (partCells false (classG s.data.toList).1), .bool (classG s.data.toList).2]) ∧ Below w.heap.size w w' := by

  go_enter Tryd.func108, Tryd.ntmps108
  go_wp2_with (first | (with_reducible refine wpList_alloc_part ?_) | (go_at_call 132; refine (Tryd.strings_HasPrefix _ _ _).mono ?_; rintro e w' ⟨rfl, rfl⟩) | (go_at_call 134; refine (Tryd.strings_TrimPrefix _ _ _).mono ?_; rintro e w' ⟨rfl, rfl⟩))
  have ht : (Lib.trimPrefix s.data.toList [94]).length ≤ s.size := Lib.trimPrefix_le _ _
  have hG : ∀ (t : ByteArray) (b : Bool), t = ⟨(Lib.trimPrefix s.data.toList [94]).toArray⟩ → b = Lib.hasPrefix s.data.toList [94] → classG s.data.toList = match classSet t.data.toList noBytes with
    | none => (noBytes, false)
    | some f => (fun c => f c != b, !t.data.toList.isEmpty) := by rintro t b rfl rfl; rfl
  generalize htb : (⟨(Lib.trimPrefix s.data.toList [94]).toArray⟩ : ByteArray) = t at *
  generalize hbb : Lib.hasPrefix s.data.toList [94] = b at *
  have HG := Lib.hid (hG t b rfl rfl)
  have hts : t.size ≤ s.size := by subst htb; exact ht
  clear hG ht htb hbb
  go_loopw [6] (fun i wr => ∃ (k : Nat) (f : Nat → Bool), k ≤ t.size ∧ i = .int .i64 k ∧ Hid (classSet (t.data.toList.drop k) f = classSet t.data.toList noBytes) ∧ TwoParts w f wr) (fun i _ => t.size - (intOf i).toNat)
  case atStart => exact ⟨0, noBytes, by omega, rfl, rfl, (heap_past _ _ _ (by simp)).trans (heap_at _ _ _ rfl), heap_at _ _ _ (by simp), ((Below.refl _ _).alloc (Nat.le_refl _) _).alloc (by simp) _⟩
  case round =>
    obtain ⟨k, f, hk, rfl, hset, hw⟩ := hrel
    by_cases hlt : k < t.size
    · have hk1 := drop_cons t k hlt
      have HK1 := Lib.hid hk1
      clear hk1
      have hset' := hset.out
      go_wp2_with fail
      go_quiet (fail)
      have hw2 : TwoParts w f (wr.drewN nq) := hw.drewN nq
      iterate 3 go_step
      go_cut [6, 7, 8] (fun i lo hi wc => ∃ (r : Nat) (h : UInt8), lo = .int .u8 t[k].toNat ∧ hi = .int .u8 h.toNat ∧ i = .int .i64 r ∧ k ≤ r ∧ r < t.size ∧ Hid (classSet (t.data.toList.drop k) f = if h < t[k] then none else classSet (t.data.toList.drop (r + 1)) (addRange f t[k].toNat h.toNat)) ∧ TwoParts w f wc)
      case first =>
        by_cases h3 : k + 2 < t.size
        · by_cases h4 : ((t[k + 1].toNat : Int) == 45) = true
          · go_wp2_with fail
            go_meet
            case rel =>
              refine ⟨k + 2, t[k + 2], rfl, rfl, by go_num, by omega, by omega, ?_, hw2⟩
              have e45 : t[k + 1] = 45 := u8_eq 45 h4 rfl
              unfold Hid
              rw [HK1.out, drop_cons t (k + 1) (by omega), drop_cons t (k + 2) (by omega), e45, classSet]
          · have h5 : ((t[k + 1].toNat : Int) == 45) = false := by simpa using h4
            go_wp2_with fail
            go_meet
            case rel =>
              refine ⟨k, t[k], rfl, rfl, rfl, by omega, by omega, ?_, hw2⟩
              have e45 : t[k + 1] ≠ 45 := u8_ne 45 h4 rfl
              unfold Hid
              rw [HK1.out, if_neg (by simp), classSet_one]
              rw [drop_cons t (k + 1) (by omega)]
              intro b r' e
              exact e45 (List.cons.inj e).1
        · go_wp2_with fail
          go_meet
          case rel =>
            refine ⟨k, t[k], rfl, rfl, rfl, by omega, by omega, ?_, hw2⟩
            unfold Hid
            rw [HK1.out, if_neg (by simp), classSet_one]
            intro b r' e
            have := congrArg List.length e
            simp at this
            omega
      case rest =>
        obtain ⟨r, h, rfl, rfl, rfl, hr1, hr2, hs2, hw3⟩ := hcut
        have HS := Lib.hid hset'
        clear hset' hset hw hw2 HK1
        by_cases hlo : h < t[k]
        · have hlo' : (h.toNat : Int) < t[k].toNat := by have := UInt8.lt_iff_toNat_lt.1 hlo; omega
          have hn : (classG s.data.toList) = (noBytes, false) := by rw [HG.out, ← HS.out, hs2.out, if_pos hlo]
          have HN := Lib.hid hn
          clear hn
          go_wp2_with (first | (with_reducible refine wpList_build_part ?_) | ((with_reducible apply wpList_store_part w.heap.size); rfl; rfl; exact hw3.1))
          have hf := hw3.fill noBytes
          refine bodyPost_ret_by (results_part2 rfl _ _ w.heap.size _ _ rfl hf.1) rfl ⟨by rw [HN.out]; rfl, hf.2⟩
        · have hle : t[k].toNat ≤ h.toNat := UInt8.le_iff_toNat_le.1 (UInt8.not_lt.1 hlo)
          have hlo' : ¬ (h.toNat : Int) < t[k].toNat := by omega
          have hh := h.toNat_lt
          rw [if_neg hlo] at hs2
          generalize t[k].toNat = a at *
          generalize h.toNat = z at *
          have hz : (z : Int) ≤ 255 := by omega
          have ha : (a : Int) ≤ z := by omega
          clear hh hlo hle
          go_wp2_with (fail)
          obtain ⟨wo, rfl⟩ : ∃ wo : World, wo = wr := ⟨_, rfl⟩
          go_loopw [9] (fun c wi => ∃ n : Nat, (a : Int) ≤ n ∧ (n : Int) ≤ z + 1 ∧ c = .int .i64 n ∧ TwoParts w (fun j => f j || (decide (a ≤ j) && decide (j < n))) wi) (fun c _ => z + 1 - (intOf c).toNat)
          case atStart =>
            refine ⟨a, by omega, by omega, rfl, hw3.congr fun i _ => ?_⟩
            have : (decide (a ≤ i) && decide (i < a)) = false := by simp
            rw [this, Bool.or_false]
          case round =>
            obtain ⟨n, hn1, hn2, rfl, hw4⟩ := hrel
            by_cases hle : (n : Int) ≤ z
            · obtain ⟨c1, c2⟩ := hw4.cell n (by omega)
              have hw5 := hw4.set n true (by omega)
              go_wp2
              go_roundw
              case rel =>
                refine ⟨n + 1, by omega, by omega, by go_num, hw5.congr fun i _ => ?_⟩
                unfold upd
                by_cases e : i = n
                · subst e; rw [if_pos rfl]
                  have : (decide (a ≤ i) && decide (i < i + 1)) = true := by simp; omega
                  rw [this, Bool.or_true]
                · rw [if_neg e]
                  have : decide (i < n + 1) = decide (i < n) := by rw [decide_eq_decide]; omega
                  rw [this]
              case measure => simp [intOf]; omega
            · obtain rfl : n = z + 1 := by omega
              go_wp2
              go_roundw
              case rel =>
                refine ⟨r + 1, addRange f a z, by omega, by go_num, ?_, hw4.congr fun i _ => ?_⟩
                · unfold Hid
                  rw [← hs2.out]
                  exact HS.out
                · unfold addRange
                  have : decide (i < z + 1) = decide (i ≤ z) := by rw [decide_eq_decide]; omega
                  rw [this]
              case measure => simp [intOf]; omega
    · have hn : classG s.data.toList = (fun c => f c != b, !t.data.toList.isEmpty) := by
        have e := hset.out
        rw [List.drop_eq_nil_of_le (by simp; omega)] at e
        rw [HG.out, ← e]
        rfl
      have HN := Lib.hid hn
      clear hn hset
      go_wp2_with fail
      obtain ⟨wo, rfl⟩ : ∃ wo : World, wo = wr := ⟨_, rfl⟩
      go_loopw [60] (fun c wi => ∃ n : Nat, (n : Int) ≤ 256 ∧ c = .int .i64 n ∧ TwoParts w (fun j => if j < n then f j != b else f j) wi) (fun c _ => 256 - (intOf c).toNat)
      case atStart => exact ⟨0, by omega, rfl, hw.congr fun i _ => by simp⟩
      case round =>
        obtain ⟨n, hn2, rfl, hw4⟩ := hrel
        by_cases hle : (n : Int) < 256
        · obtain ⟨c1, c2⟩ := hw4.cell n (by omega)
          rw [if_neg (by omega)] at c1
          have hw5 := hw4.set n (f n != b) (by omega)
          go_wp2
          go_roundw
          case rel =>
            refine ⟨n + 1, by omega, by go_num, hw5.congr fun i _ => ?_⟩
            unfold upd
            by_cases e : i = n
            · subst e; rw [if_pos rfl, if_pos (by omega)]
            · rw [if_neg e]
              show (if i < n then f i != b else f i) = _
              by_cases e2 : i < n
              · rw [if_pos e2, if_pos (by omega)]
              · rw [if_neg e2, if_neg (by omega)]
          case measure => simp [intOf]; omega
        · obtain rfl : n = 256 := by omega
          have hw5 : TwoParts w (fun c => f c != b) wr := hw4.congr fun i hi => by simp [hi]
          go_wp2_with (first | ((with_reducible apply wpList_load_part (w.heap.size + 1)); rfl; exact hw5.2.1) | ((with_reducible apply wpList_store_part w.heap.size); rfl; rfl; exact hw5.1))
          have hf := hw5.fill (fun c => f c != b)
          refine bodyPost_ret_by (results_part2 rfl _ _ w.heap.size _ _ rfl hf.1) rfl ⟨?_, hf.2⟩
          rw [HN.out]
          have e : t.toList = t.data.toList := Lib.toList_data t
          show Ending.returned (.tuple #[_, .bool (!t.toList.isEmpty)]) = Ending.returned (.tuple #[_, .bool (!t.data.toList.isEmpty)])
          rw [e]
end Go.Proofs.YtolaecdopfmbgaaDoor.Gl
