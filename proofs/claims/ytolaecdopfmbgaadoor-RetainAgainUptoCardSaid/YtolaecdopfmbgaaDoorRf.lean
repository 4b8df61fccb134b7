/- version.parts and version.Parts: the parts of a name in a row of the call's own; what is drawn has not fallen. Condition: names of at most 1048576 bytes. -/
import Derived.Test.YtolaecdopfmbgaaDoorRe
namespace Go
theorem wpListIn_append_ownD {F : Fence} {n : Nat} {P : Program} (w : World) {ops : Array Oper} {rest : List Oper} {o : Oper} {a : Act} {Q : Exit → Act → World → Prop}
    (hg : o.guard = none) (s x : Operand) (t : TypeId) (hop : o.op = Op.call { callee := Callee.builtin Builtin.append, args := #[s, x], argTypes := #[t, t] })
    (base : Nat) (e : TypeId) (i : TypeInfo) (z : Value) (size bytes : Nat) (h1 : P.underlying t = some (.slice e)) (h2 : P.info? e = some i) (h3 : i.zero = some z) (h4 : i.size = size) (h5 : i.bytes = bytes) (h6 : z.cells.size = size) (h7 : 0 < size)
    (v : Value) (k : Nat) (xs : List Value) (hs : a.eval s = v) (hown : w.ownsRow base e size v k xs) (ad : Addr) (m c : Nat) (news : List Value) (hx : a.eval x = .slice (some ad) m c) (hn : news.length = m * size)
    (hc : ∀ j u, news[j]? = some u → w.cell? (ad.add j) = some u) (h1c : ∀ u ∈ news, u.oneCell' = true) (b1 : k + m ≤ maxLen) (b2 : (k + m) * bytes ≤ 140737488355328) (b3 : base ≤ w.heap.size)
    (hK : ∀ v' w', w'.ownsRow base e size v' (k + m) (xs ++ news) → w.grownBy w' v.ownBlock → w.drawn ≤ w'.drawn → wpListIn F n P ops Q rest (a.put o.dst v') w') :
    wpListIn F n P ops Q (o :: rest) a w := by
  refine wpListIn_plain hg fun K hK' => ?_
  obtain ⟨v', w', hrun, r1, r2, _⟩ := run_append_own (P := P) w base t o.type e i z size bytes h1 h2 h3 h4 h5 h6 h7 v k xs hown ad m c news hn hc h1c b1 b2 b3
  have hd := Sem.run_drawn P _ _ _ _ hrun
  unfold Oper.wpIn
  refine ⟨?_, ?_⟩
  · simp [Oper.about, hop, resolve, Target.leads, Sem.run_pure]
  · rw [Oper.semAt_plain F _ _ (by rw [hop]; intro c hc'; cases hc')]
    simp [execOp, hop, resolve, invoke, builtin, hs, hx, hrun, Result.andThen]
    exact hK' _ _ (hK v' w' r1 r2 hd)
end Go
namespace Go.Proofs.YtolaecdopfmbgaaDoor
open Go.RowKit Go.Shelf
attribute [local go_sem] Oper.semAt_some wide_fn

theorem infoStr : (Tryd.prog.info? 9).map (fun i => (i.zero, i.size, i.bytes)) = some (some (.string ByteArray.empty), 1, 16) := by kernel_rfl
/-- names as cells -/
def namC (l : List (List UInt8)) : List Value := l.map fun s => .string (strV s)
theorem namC_length (l : List (List UInt8)) : (namC l).length = l.length := by simp [namC]
theorem parts_len : ∀ (s : List UInt8), (partsV s).length ≤ s.length
  | [] => by simp [partsV]
  | a :: r => by
    have ih := parts_len r
    simp only [partsV]
    split
    · rename_i e; rw [e] at ih; split <;> simp at ih ⊢ <;> omega
    · simp; omega
theorem parts_calls (p : ByteArray) (w : World) : Calls Tryd.prog 126 #[.string p] w fun e w' =>
    e = .returned (.func (.func 161) #[] #[.pointer (some ⟨w.heap.size, 0, none⟩)]) ∧ w' = w.alloc (.cells #[.string p] 9) := by
  go_enter Tryd.func126, Tryd.ntmps126
  go_wp2
  go_ret
  exact ⟨rfl, rfl⟩

theorem Owns.movesM {fp : Nat → Prop} {W W' : World} {base : Nat} {e : TypeId} {size : Nat} {v : Value} {n : Nat} {xs : List Value} (h : W.ownsRow base e size v n xs) (hm : Moves fp W W') (hf : ∀ k, fp k → k < base) : W'.ownsRow base e size v n xs := by
  obtain ⟨h1, (⟨h2, h3⟩ | ⟨g, cap, cur, h2, h3, h4, h5⟩)⟩ := h
  · exact ⟨h1, .inl ⟨h2, h3⟩⟩
  · exact ⟨h1, .inr ⟨g, cap, cur, h2, h3, (hm.block g (lt_of_block h4) fun h => by have := hf g h; omega).trans h4, h5⟩⟩

set_option maxHeartbeats 2000000 in
theorem Parts_calls (p : ByteArray) (w : World) (hp : p.size ≤ 1048576) :
    Calls Tryd.prog 97 #[.string p] w fun e w' => ∃ v, e = .returned v ∧ w'.ownsRow (w.heap.size + 4) 9 1 v (partsV p.data.toList).length (namC (partsV p.data.toList)) ∧ Below w.heap.size w w' ∧ w.drawn ≤ w'.drawn := by
  have hlen : p.data.toList.length = p.size := by simp
  have hpl := parts_len p.data.toList
  rw [hlen] at hpl
  have HPL := Lib.hid hpl
  clear hpl hlen
  refine (callsIn_wide (n := 9)).1 ?_
  refine callsIn_of_wp_marks Tryd.func97 rfl trivial ?_ rfl
  simp only [Tryd.ntmps97, List.size_toArray, List.length_cons, List.length_nil, Nat.reduceAdd, Nat.reduceSub, Array.replicate_succ, Array.replicate_zero, List.push_toArray, List.append_toArray, List.nil_append, List.cons_append]
  gi_wp2_with (gi_at_call 126; refine (callsIn_wide.2 (parts_calls _ _)).mono ?_; rintro e w' ⟨rfl, rfl⟩)
  obtain ⟨i0, hi, hz0, hz1, hz2⟩ := info_parts infoStr
  have hz : ((w.alloc (.cells #[.slice none 0 0] 46)).alloc (.cells #[.string p] 9)).heap.size = w.heap.size + 2 := by simp
  have hr0 : ((w.alloc (.cells #[.slice none 0 0] 46)).alloc (.cells #[.string p] 9)).heap[w.heap.size]? = some (.cells #[.slice none 0 0] 46) := (Below.heap_alloc _ _ _ (by simp)).trans (World.alloc_heap_new w _)
  have hp0 : ((w.alloc (.cells #[.slice none 0 0] 46)).alloc (.cells #[.string p] 9)).heap[w.heap.size + 1]? = some (.cells #[.string p] 9) := by
    have := World.alloc_heap_new (w.alloc (.cells #[.slice none 0 0] 46)) (.cells #[.string p] 9); rwa [World.size_alloc] at this
  have hB0 : Below w.heap.size w ((w.alloc (.cells #[.slice none 0 0] 46)).alloc (.cells #[.string p] 9)) := ((Below.refl _ _).alloc (Nat.le_refl _) _).alloc (by simp) _
  have hD0 : w.drawn ≤ ((w.alloc (.cells #[.slice none 0 0] 46)).alloc (.cells #[.string p] 9)).drawn := Nat.le_refl _
  generalize (w.alloc (.cells #[.slice none 0 0] 46)).alloc (.cells #[.string p] 9) = w0 at *
  generalize hN : w.heap.size = N at *
  have stab : ∀ (pre : List (List UInt8)) (v : Value) (A B : World), A.heap[N]? = some (.cells #[v] 46) → A.ownsRow (N + 4) 9 1 v pre.length (namC pre) → Below N w A → w.drawn ≤ A.drawn → MovesD (withLoop (fun x => x = N + 1) w0.heap.size) A B →
      B.heap[N]? = some (.cells #[v] 46) ∧ B.ownsRow (N + 4) 9 1 v pre.length (namC pre) ∧ Below N w B ∧ w.drawn ≤ B.drawn := fun pre v A B h1 h2 h3 h4 hm => by
    have hlt := lt_of_block h1
    exact ⟨(hm.block _ hlt (by simp only [withLoop]; omega)).trans h1, Owns.movesM h2 hm.toMoves (fun k hk => by simp only [withLoop] at hk; omega), h3.trans (hm.toMoves.below (by have := h3.size; omega) fun k hk => by simp only [withLoop] at hk; omega), Nat.le_trans h4 hm.drawn⟩
  refine wpIn_rangeD (gf := 161) (lb := #[.pointer (some ⟨N + 1, 0, none⟩)]) rfl (enters_of Tryd.func161 (by kernel_rfl) rfl) (parts1_seqD (9 - 1) (N + 1) p w0 (by omega) hp0) (Below.refl _ _) (fun k h => by omega) (fun _ => rfl)
    (fun pre W => ∃ v, W.heap[N]? = some (.cells #[v] 46) ∧ W.ownsRow (N + 4) 9 1 v pre.length (namC pre) ∧ Below N w W ∧ w.drawn ≤ W.drawn)
    (fun _ _ _ => False)
    (fun pre x a W => ∃ (v : Value), a = { tmps := #[.string p, undef, .slice none 0 0, .pointer (some ⟨N, 0, none⟩), .string (strV x), .string p, .func (.func 161) #[] #[.pointer (some ⟨N + 1, 0, none⟩)], .string (strV x), undef, undef, undef, undef, undef], defers := [] } ∧
      W.heap[N]? = some (.cells #[v] 46) ∧ W.ownsRow (N + 4) 9 1 v pre.length (namC pre) ∧ Below N w W ∧ w.drawn ≤ W.drawn)
    ?hI ?hIx ?hAx ⟨_, hr0, World.ownsRow_nil _ _ _ _, hB0, hD0⟩ ?hassign ?hbody ?hdone ?hstop
  case hI =>
    rintro pre A B ⟨v, h1, h2, h3, h4⟩ hm
    exact ⟨v, stab pre v A B h1 h2 h3 h4 hm⟩
  case hIx => exact fun _ _ _ _ h _ => h
  case hAx =>
    rintro pre x a ⟨⟩ A B ⟨v, h0, h1, h2, h3, h4⟩ hm
    exact ⟨v, h0, stab pre v A B h1 h2 h3 h4 hm⟩
  case hassign =>
    rintro l pre x W K hpre hzz ⟨v, h1, h2, h3, h4⟩ hK
    go_simp
    gi_wp2_with fail
    exact hK _ _ (Keeps.refl _ _) ⟨v, rfl, h1, h2, h3, h4⟩
  case hbody =>
    rintro l pre x a W hpre hzz ⟨v, rfl, h1, h2, h3, h4⟩
    have c1 := cell_of_one h1
    have f1 := free_of_one h1
    have hk : pre.length + 1 ≤ 1048576 := by
      have h := hpre.length_le
      have := HPL.out
      simp only [List.length_append, List.length_cons, List.length_nil] at h
      omega
    have HK := Lib.hid hk
    clear hk
    have hNlt := lt_of_block h1
    have hrow := h2.lt
    have hne : some N ≠ v.ownBlock := fun e => by have := (hrow N e.symm).1; omega
    have HNE := Lib.hid hne
    have HROW := Lib.hid hrow
    have HA := Lib.hid ((Below.heap_alloc W (.cells #[.string (strV x)] 9) N hNlt).trans h1)
    clear hne hrow
    gi_wp2_with (gi_at_builtin; refine wpListIn_append_ownD _ rfl _ _ 46 rfl (N + 4) 9 i0 (.string ByteArray.empty) 1 16 Tryd.underlying46 hi hz0 hz1 hz2 rfl (by decide) _ _ _ rfl (h2.alloc _) ⟨W.heap.size, 0, none⟩ 1 1 [.string (strV x)] rfl ?c1 ?c2 ?c3 ?c4 ?c5 ?c6 ?_; rotate_left 6; intro v' w2 hown' hgrow hdr; obtain ⟨g', cap', rfl⟩ := ownsRow_succ hown'; have hl := hgrow.size; have h1' : w2.heap[N]? = some (.cells #[v] 46) := (hgrow.block N (by rw [World.size_alloc]; omega) HNE.out).trans HA.out; have c1' := cell_of_one h1'; have f1' := free_of_one h1')
    case c1 => rfl
    case c2 =>
      intro j u hj
      cases j with
      | zero =>
        obtain rfl : Value.string (strV x) = u := by simpa using hj
        simp [Addr.add]
      | succ j => simp at hj
    case c3 => intro u hu; obtain rfl : u = Value.string (strV x) := by simpa using hu
               rfl
    case c4 => have := HK.out; unfold maxLen; omega
    case c5 => have := HK.out; omega
    case c6 => rw [World.size_alloc]; omega
    refine ⟨?_, _, one_setCell h1', ?_, ?_, ?_⟩
    · refine ((Keeps.alloc _ W _).trans (Keeps.of_grown hgrow fun k e => ?_)).trans (Keeps.setCell _ _ _ (by simp only [withLoop]; omega))
      have := (HROW.out k e).1
      simp only [withLoop]; omega
    · rw [List.length_append]
      have e : namC (pre ++ [x]) = namC pre ++ [.string (strV x)] := by simp [namC]
      rw [e]
      exact ownsRow_setCell_below hown' (by show N < N + 4; omega) _
    · exact ((h3.alloc (by omega) _).grown hgrow (by rw [World.size_alloc]; omega) (fun k e => by have := (HROW.out k e).1; omega)).setCell (Nat.le_refl _) _
    · exact Nat.le_trans h4 hdr
  case hdone =>
    rintro W ⟨v, h1, h2, h3, h4⟩ hD hzz
    have c1 := cell_of_one h1
    gi_wp2_with fail
    subst hN
    refine postM_ret rfl hD (results_tmp rfl _ _ _) ⟨v, rfl, Owns.movesM h2 (Moves.putObj (fp := fun k => k = w0.heap.size) W _ _ rfl) (fun k hk => by omega), ?_, h4⟩
    exact below_putObj h3 (by omega) _
  case hstop =>
    rintro c pre W hpre h
    exact h.elim
end Go.Proofs.YtolaecdopfmbgaaDoor
