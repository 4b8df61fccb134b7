/- glob.Match tells whether a pattern stands for a name, for strings of at most 140737488351232 bytes; nothing that was there changes. -/
import Derived.Great.BuildSlice
import Derived.Great.FillDense
import Derived.Test.YtolaecdopfmbgaaDoorGlG
import Derived.Test.YtolaecdopfmbgaaDoorGlN
namespace Go.Proofs.YtolaecdopfmbgaaDoor.Gl
open Go.RowKit Go.Shelf
attribute [local go_sem] Oper.semAt_some PY.encs

theorem infoB38 : (Tryd.prog.info? 138).map (fun i => (i.zero, i.size, i.bytes)) = some (some (.agg (partCells false noBytes)), 257, 257) := by kernel_rfl

section
variable {F : Fence} {n : Nat} {ops : Array Oper} {Q : Exit → Act → World → Prop} {a : Act} {w : World} {rest : List Oper} {ty : TypeId} {pos : String} {after : Array Edge}
theorem wpListIn_buildSlice_part {d x : Tmp} {m : Bool} {f : Nat → Bool} (hx : a.tmps.getD x undef = .agg (partCells m f))
    (h : wpListIn F n Tryd.prog ops Q rest (a.put (some d) (.slice (some ⟨w.heap.size, 0, none⟩) 1 1)) (w.alloc (.cells (partCells m f) 138))) :
    wpListIn F n Tryd.prog ops Q ({ dst := some d, op := .buildSlice 159 1 #[(0, .tmp x)], type := ty, pos := pos, after := after, guard := none } :: rest) a w := by
  refine wpListIn_of_value rfl (fun _ e => by cases e) (fun _ e => by cases e) ?_ h
  obtain ⟨i0, hi, hz0, hz1, hz2⟩ := info_parts infoB38
  have hx' : a.eval (.tmp x) = .agg (partCells m f) := hx
  have hfill := Great.fill_whole (s := 257) (by omega) [.agg (partCells m f)] ((Array.range (1 * 257)).map ((Value.agg (partCells false noBytes)).cells[· % (Value.agg (partCells false noBytes)).cells.size]!))
    (fun v hv => by simp at hv; subst hv; exact partCells_size m f) (by simp)
  have hl := run_buildSlice (P := Tryd.prog) w 159 138 1 #[(0, .agg (partCells m f))] (partCells m f) i0 _ Tryd.underlying159 hi hz0 (by rw [hz1]; decide) (by rw [hz1]; decide)
    (by rw [hz1]; simpa [Value.cells] using hfill)
  have he : (#[(0, Operand.tmp x)] : Array (Nat × Operand)).map (fun (i, x) => (i, a.eval x)) = #[(0, .agg (partCells m f))] := by simp [hx']
  simp only [execOp, he, Sem.run_bind, Sem.run_pure, Result.andThen_ok, hl]
end

def cellsOf (l : List PY) : List Value := l.flatMap fun x => (partCells x.m x.f).toList
theorem cellsOf_length (l : List PY) : (cellsOf l).length = l.length * 257 := by
  induction l with
  | nil => rfl
  | cons x l ih =>
    show ((partCells x.m x.f).toList ++ cellsOf l).length = _
    rw [List.length_append, ih, Array.length_toList, partCells_size, List.length_cons]; omega
theorem cellsOf_snoc (l : List PY) (x : PY) : cellsOf (l ++ [x]) = cellsOf l ++ (partCells x.m x.f).toList := by simp [cellsOf]
theorem cellsOf_get : ∀ (l : List PY) (k : Nat) (x : PY), l[k]? = some x → ∀ j, j < 257 → (cellsOf l)[k * 257 + j]? = (partCells x.m x.f)[j]?
  | [], k, x, h, j, hj => by simp at h
  | y :: l, 0, x, h, j, hj => by
    obtain rfl : y = x := by simpa using h
    show ((partCells y.m y.f).toList ++ cellsOf l)[0 * 257 + j]? = _
    rw [List.getElem?_append_left (by rw [Array.length_toList, partCells_size]; omega)]; simp
  | y :: l, k + 1, x, h, j, hj => by
    show ((partCells y.m y.f).toList ++ cellsOf l)[(k + 1) * 257 + j]? = _
    rw [List.getElem?_append_right (by rw [Array.length_toList, partCells_size]; omega), Array.length_toList, partCells_size, show (k + 1) * 257 + j - 257 = k * 257 + j by omega]
    exact cellsOf_get l k x h j hj
/-- parts that the call's own row holds -/
theorem partsIn_of_owns {w : World} {base : Nat} {v : Value} {l : List PY} (h : w.ownsRow base 138 257 v l.length (cellsOf l)) : ∃ a cap, v = .slice a l.length cap ∧ PartsIn w a l := by
  obtain ⟨h1, (⟨rfl, h2⟩ | ⟨g, cap, cur, rfl, h3, h4, h5, h6, h7, h8⟩)⟩ := h
  · have : l = [] := List.eq_nil_of_length_eq_zero h2
    subst this
    exact ⟨none, 0, rfl, fun k x hx => by simp at hx⟩
  · refine ⟨_, _, rfl, fun k x hx => ⟨g, rfl, ?_⟩⟩
    have hk := (List.getElem?_eq_some_iff.1 hx).1
    have key : ∀ j, j < 257 → w.cell? ⟨g, k * 257 + j, none⟩ = (partCells x.m x.f)[j]? := fun j hj => by
      rw [cell_of_row _ _ _ _ _ _ h4, ← cellsOf_get l k x hx j hj, ← h8, List.getElem?_take, if_pos (by omega), Array.getElem?_toList]
    refine ⟨?_, fun j hj => ?_⟩
    · have := key 0 (by omega); rwa [Nat.add_zero, partCells_zero] at this
    · have := key (1 + j) (by omega); rwa [partCells_at _ _ _ hj, ← Nat.add_assoc] at this

def matchG (p s : List UInt8) : Bool := if rightG p = 0 then M (partsL p) s else false
theorem partsL_length (p : List UInt8) : (partsL p).length ≤ p.length := by
  induction p using partsL.induct with
  | case1 => simp [partsL]
  | case2 c r ih =>
    rw [partsL]
    simp only [List.length_cons]
    have := List.length_drop (l := r) (i := (headG c r).2)
    omega

theorem Owns.moves {fp : Nat → Prop} {W W' : World} {base : Nat} {e : TypeId} {size : Nat} {v : Value} {n : Nat} {xs : List Value} (h : W.ownsRow base e size v n xs) (hm : Moves fp W W') (hf : ∀ k, fp k → k < base) : W'.ownsRow base e size v n xs := by
  obtain ⟨h1, (⟨h2, h3⟩ | ⟨g, cap, cur, h2, h3, h4, h5⟩)⟩ := h
  · exact ⟨h1, .inl ⟨h2, h3⟩⟩
  · exact ⟨h1, .inr ⟨g, cap, cur, h2, h3, (hm.block g (lt_of_block h4) fun h => by have := hf g h; omega).trans h4, h5⟩⟩
theorem matchG_no (p s : List UInt8) (h : rightG p ≠ 0) : matchG p s = false := by unfold matchG; rw [if_neg h]

set_option maxHeartbeats 2000000 in
theorem match8_calls (p s : ByteArray) (w : World) (hp : p.size ≤ 140737488351232) (hs : s.size ≤ 140737488355328) :
    Calls Tryd.prog 68 #[.string p, .string s] w fun e w' => e = .returned (.bool (matchG p.data.toList s.data.toList)) ∧ Below w.heap.size w w' := by
  have hlen : p.data.toList.length = p.size := by simp
  by_cases hr : rightG p.data.toList = 0
  · have hM : matchG p.data.toList s.data.toList = M (partsL p.data.toList) s.data.toList := by unfold matchG; rw [if_pos hr]
    have h64 : p.size ≤ 64 := by
      unfold rightG at hr; rw [hlen] at hr
      by_cases h : 64 < p.size
      · rw [if_pos h] at hr; omega
      · omega
    have hpl := partsL_length p.data.toList
    rw [hlen] at hpl
    have HM := Lib.hid hM
    have HR := Lib.hid hr
    have HPL := Lib.hid hpl
    have H64 := Lib.hid h64
    have hcall : ∀ W, Calls Tryd.prog 45 #[.string p] W fun e w' => e = .returned (.int .i64 0) ∧ Below W.heap.size W w' := fun W => by
      have := right_calls p W hp; rwa [hr] at this
    have HC := Lib.hid hcall
    clear hM hlen hr hpl hcall h64
    refine (callsIn_wide (n := 9)).1 ?_
    refine callsIn_of_wp_marks Tryd.func68 rfl trivial ?_ rfl
    simp only [Tryd.ntmps68, List.size_toArray, List.length_cons, List.length_nil, Nat.reduceAdd, Nat.reduceSub, Array.replicate_succ, Array.replicate_zero, List.push_toArray, List.append_toArray, List.nil_append, List.cons_append]
    gi_wp2_with (first | (refine ⟨trivial, ?_⟩; gi_at_call 45; refine (callsIn_wide.2 (HC.out _)).mono ?_; rintro e w1 ⟨rfl, hB1⟩) | (refine ⟨trivial, ?_⟩; gi_at_call 73; refine (callsIn_wide.2 (parts_calls _ _)).mono ?_; rintro e w' ⟨rfl, rfl⟩))
    obtain ⟨i0, hi, hz0, hz1, hz2⟩ := info_parts infoB38
    have hsz := hB1.size
    have hz : ((w1.alloc (.cells #[.slice none 0 0] 159)).alloc (.cells #[.string p] 9)).heap.size = w1.heap.size + 2 := by simp
    have hr0 : ((w1.alloc (.cells #[.slice none 0 0] 159)).alloc (.cells #[.string p] 9)).heap[w1.heap.size]? = some (.cells #[.slice none 0 0] 159) := (heap_past _ _ _ (by simp)).trans (heap_at _ _ _ rfl)
    have hp0 : ((w1.alloc (.cells #[.slice none 0 0] 159)).alloc (.cells #[.string p] 9)).heap[w1.heap.size + 1]? = some (.cells #[.string p] 9) := heap_at _ _ _ (by simp)
    have hB0 : Below w1.heap.size w1 ((w1.alloc (.cells #[.slice none 0 0] 159)).alloc (.cells #[.string p] 9)) := ((Below.refl _ _).alloc (Nat.le_refl _) _).alloc (by simp) _
    generalize (w1.alloc (.cells #[.slice none 0 0] 159)).alloc (.cells #[.string p] 9) = w0 at *
    generalize hN : w1.heap.size = N at *
    have stab : ∀ (pre : List PY) (v : Value) (A B : World), A.heap[N]? = some (.cells #[v] 159) → A.ownsRow (N + 4) 138 257 v pre.length (cellsOf pre) → Below N w1 A → Moves (withLoop (fun x => x = N + 1) w0.heap.size) A B →
        B.heap[N]? = some (.cells #[v] 159) ∧ B.ownsRow (N + 4) 138 257 v pre.length (cellsOf pre) ∧ Below N w1 B := fun pre v A B h1 h2 h3 hm => by
      have hlt := lt_of_block h1
      exact ⟨(hm.block _ hlt (by simp only [withLoop]; omega)).trans h1, Owns.moves h2 hm (fun k hk => by simp only [withLoop] at hk; omega), h3.trans (hm.below (by have := h3.size; omega) fun k hk => by simp only [withLoop] at hk; omega)⟩
    refine wpIn_rangeG (gf := 104) (lb := #[.pointer (some ⟨N + 1, 0, none⟩)]) rfl (enters_of Tryd.func104 (by kernel_rfl) rfl) (parts1_seq (9 - 1) (N + 1) p w0 hp hp0) (Below.refl _ _) (fun k h => by omega) (fun _ => rfl)
      (fun pre W => ∃ v, W.heap[N]? = some (.cells #[v] 159) ∧ W.ownsRow (N + 4) 138 257 v pre.length (cellsOf pre) ∧ Below N w1 W)
      (fun _ _ _ => False)
      (fun pre x a W => ∃ (Bx : Nat) (v : Value), a = { tmps := #[.string p, .string s, undef, undef, .bool false, .pointer (some ⟨N, 0, none⟩), .pointer (some ⟨Bx, 0, none⟩), .string p, .int .i64 0, .bool false, .string p, .func (.func 104) #[] #[.pointer (some ⟨N + 1, 0, none⟩)], .agg (partCells x.m x.f), .bool x.ok, undef, undef, undef, undef, undef, undef, undef], defers := [] } ∧
        N + 4 ≤ Bx ∧ W.heap[Bx]? = some (.cells (partCells x.m x.f) 138) ∧ W.heap[N]? = some (.cells #[v] 159) ∧ W.ownsRow (N + 4) 138 257 v pre.length (cellsOf pre) ∧ Below N w1 W)
      ?hI ?hIx ?hAx ⟨_, hr0, World.ownsRow_nil _ _ _ _, hB0⟩ ?hassign ?hbody ?hdone ?hstop
    case hI =>
      rintro pre A B ⟨v, h1, h2, h3⟩ hm
      exact ⟨v, stab pre v A B h1 h2 h3 hm⟩
    case hIx => exact fun _ _ _ _ h _ => h
    case hAx =>
      rintro pre x a ⟨⟩ A B ⟨Bx, v, h0, h4, h5, h1, h2, h3⟩ hm
      exact ⟨Bx, v, h0, h4, (hm.block _ (lt_of_block h5) (by simp only [withLoop]; omega)).trans h5, stab pre v A B h1 h2 h3 hm⟩
    case hassign =>
      rintro l pre x W K hpre hzz ⟨v, h1, h2, h3⟩ hK
      go_simp
      gi_wp2_with (first | (with_reducible refine wpListIn_alloc_part ?_) | ((with_reducible apply wpListIn_store_part W.heap.size); rfl; rfl; exact heap_at _ _ _ rfl))
      rw [setRow_alloc_at _ _ _ _ _ rfl]
      have hlt := lt_of_block h1
      exact hK _ _ (Keeps.alloc _ _ _) ⟨W.heap.size, v, rfl, by omega, heap_at _ _ _ rfl, (heap_past _ _ _ hlt).trans h1, h2.alloc _, h3.alloc (by omega) _⟩
    case hbody =>
      rintro l pre x a W hpre hzz ⟨Bx, v, rfl, h4, h5, h1, h2, h3⟩
      have c1 := cell_of_one h1
      have f1 := free_of_one h1
      have hk : pre.length + 1 ≤ 64 := by
        have h := hpre.length_le
        have := HPL.out
        have := H64.out
        simp only [List.length_append, List.length_cons, List.length_nil] at h
        omega
      have HK := Lib.hid hk
      clear hk
      have hNlt := lt_of_block h1
      have hrow := h2.lt
      have hne : some N ≠ v.ownBlock := fun e => by have := (hrow N e.symm).1; omega
      have HNE := Lib.hid hne
      have HROW := Lib.hid hrow
      have HA := Lib.hid ((heap_past W (.cells (partCells x.m x.f) 138) N hNlt).trans h1)
      clear hne hrow
      gi_wp2_with (first | ((with_reducible apply wpListIn_load_part Bx); rfl; exact h5) | ((with_reducible apply wpListIn_buildSlice_part); rfl) | (gi_at_builtin; refine wpListIn_append_own _ rfl _ _ 159 rfl (N + 4) 138 i0 (.agg (partCells false noBytes)) 257 257 Tryd.underlying159 hi hz0 hz1 hz2 (partCells_size _ _) (by decide) _ _ _ rfl (h2.alloc _) ⟨W.heap.size, 0, none⟩ 1 1 (partCells x.m x.f).toList rfl ?c1 ?c2 ?c3 ?c4 ?c5 ?c6 ?_; rotate_left 6; intro v' w2 hown' hgrow _; obtain ⟨g', cap', rfl⟩ := ownsRow_succ hown'; have hl := hgrow.size; have h1' : w2.heap[N]? = some (.cells #[v] 159) := (hgrow.block N (by rw [World.size_alloc]; omega) HNE.out).trans HA.out; have c1' := cell_of_one h1'; have f1' := free_of_one h1'))
      case c1 => rw [Array.length_toList, partCells_size]
      case c2 =>
        intro j u hj
        rw [Array.getElem?_toList] at hj
        have hadd : (⟨W.heap.size, 0, none⟩ : Addr).add j = ⟨W.heap.size, j, none⟩ := by unfold Addr.add; split <;> simp_all
        rw [hadd, World.cell?_alloc_new]; exact hj
      case c3 =>
        intro u hu
        exact Array.all_eq_true_iff_forall_mem.1 (partCells_one x.m x.f) u (by simpa using hu)
      case c4 => have := HK.out; unfold maxLen; omega
      case c5 => have := HK.out; omega
      case c6 => rw [World.size_alloc]; omega
      refine ⟨?_, _, one_setCell h1', ?_, ?_⟩
      · refine ((Keeps.alloc _ W _).trans (Keeps.of_grown hgrow fun k e => ?_)).trans (Keeps.setCell _ _ _ (by simp only [withLoop]; omega))
        have := (HROW.out k e).1
        simp only [withLoop]; omega
      · rw [List.length_append, cellsOf_snoc]
        exact ownsRow_setCell_below hown' (by show N < N + 4; omega) _
      · exact ((h3.alloc (by omega) _).grown hgrow (by rw [World.size_alloc]; omega) (fun k e => by have := (HROW.out k e).1; omega)).setCell (Nat.le_refl _) _
    case hdone =>
      rintro W ⟨v, h1, h2, h3⟩ hD hzz
      obtain ⟨a, cap, rfl, hP⟩ := partsIn_of_owns h2
      have c1 := cell_of_one h1
      have h64 : (partsL p.data.toList).length ≤ 64 := Nat.le_trans HPL.out H64.out
      have hmc := match_calls (partsL p.data.toList) a cap s W hs h64 hP
      have HMC := Lib.hid hmc
      clear hmc h64 hP
      gi_wp2_with (refine ⟨trivial, ?_⟩; gi_at_call 99; refine (callsIn_wide.2 HMC.out).mono ?_; rintro e w' ⟨rfl, nn, rfl⟩)
      have hD' : (W.drewN nn).heap[N + 2]? = some (.deferred (some [])) := by rw [← hz]; exact hD
      refine postM_ret rfl hD' (results_tmp rfl _ _ _) ⟨by rw [HM.out]; rfl, ?_⟩
      exact below_putObj (below_drewN (hB1.trans (h3.mono hsz)) _) (by omega) _
    case hstop =>
      rintro c pre W hpre h
      exact h.elim
  · have HM := Lib.hid (matchG_no p.data.toList s.data.toList hr)
    have hb : (rightG p.data.toList != 0) = true := by simpa using hr
    have hcall := fun W => right_calls p W hp
    generalize rightG p.data.toList = r at *
    have HC := Lib.hid hcall
    clear hr hlen hcall
    go_enter Tryd.func68, Tryd.ntmps68
    go_wp2_with (go_at_call 45; refine (HC.out _).mono ?_; rintro e w' ⟨rfl, hB⟩)
    go_ret
    exact ⟨ret_bool HM.out.symm, hB⟩
end Go.Proofs.YtolaecdopfmbgaaDoor.Gl
