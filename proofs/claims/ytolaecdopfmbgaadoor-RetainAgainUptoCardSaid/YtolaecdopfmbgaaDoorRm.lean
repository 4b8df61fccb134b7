/- The reference's Row: names in the order of versions, each once. Condition: at most 1048576 names of at most 1048576 bytes. -/
import Derived.Deep.RegionHeld3
import Derived.Test.YtolaecdopfmbgaaDoorRl
namespace Go.Proofs.YtolaecdopfmbgaaDoor
open Go.RowKit Go.Shelf

theorem ownsRow_wider {w : World} {base base' : Nat} {e : TypeId} {size : Nat} {v : Value} {n : Nat} {xs : List Value} (h : w.ownsRow base e size v n xs) (hb : base' ≤ base) : w.ownsRow base' e size v n xs := by
  obtain ⟨h1, (⟨h2, h3⟩ | ⟨g, cap, cur, h2, h3, h4⟩)⟩ := h
  · exact ⟨h1, .inl ⟨h2, h3⟩⟩
  · exact ⟨h1, .inr ⟨g, cap, cur, h2, by omega, h4⟩⟩
theorem ownsRow_below {w w' : World} {base : Nat} {e : TypeId} {size : Nat} {v : Value} {n : Nat} {xs : List Value} (h : w.ownsRow base e size v n xs) (hb : Below w.heap.size w w') : w'.ownsRow base e size v n xs :=
  Owns.movesM (fp := fun _ => False) h (Moves.of_below hb) (fun _ h => h.elim)
theorem NamIn.at_ {w : World} {v : Value} {l : List (List UInt8)} (h : NamIn w v l) : ∃ a cap, v = .slice a l.length cap ∧ ∀ W, Below w.heap.size w W → ∀ k (h : k < l.length), ∃ g off, a = some ⟨g, off, none⟩ ∧ W.cell? ⟨g, off + k, none⟩ = some (.string (strV l[k])) := by
  have h0 := h
  obtain ⟨a, cap, rfl, _⟩ := h
  refine ⟨a, cap, rfl, fun W hW k hk => ?_⟩
  obtain ⟨a', cap', e, hc⟩ := h0.below hW
  cases e
  exact hc k hk
/-- how far the reference has come in laying a name among others: what is laid, and how the rest follows -/
def InsAt (x : List UInt8) (O P : List (List UInt8)) (done : Bool) (j : Nat) : Prop := insV x O = P ++ (if done then O.drop j else insV x (O.drop j)) ∧ P.length ≤ j + 1
theorem insAt_done {x : List UInt8} {O P : List (List UInt8)} {j : Nat} (h : InsAt x O P true j) (hj : j < O.length) : InsAt x O (P ++ [O[j]]) true (j + 1) ∧ P.length + 1 ≤ j + 2 := by
  obtain ⟨h1, h2⟩ := h
  refine ⟨⟨?_, by simp; omega⟩, by omega⟩
  simp only [if_true] at h1 ⊢
  rw [h1, List.drop_eq_getElem_cons hj, List.append_assoc]; rfl
theorem insAt_same {x : List UInt8} {O P : List (List UInt8)} {j : Nat} (h : InsAt x O P false j) (hp : P.length ≤ j) (hj : j < O.length) (e : O[j] = x) : InsAt x O (P ++ [O[j]]) true (j + 1) := by
  obtain ⟨h1, h2⟩ := h
  refine ⟨?_, by simp; omega⟩
  simp only [if_true, Bool.false_eq_true, if_false] at h1 ⊢
  rw [h1, List.drop_eq_getElem_cons hj, insV, if_pos e.symm, List.append_assoc]; rfl
theorem insAt_ahead {x : List UInt8} {O P : List (List UInt8)} {j : Nat} (h : InsAt x O P false j) (hp : P.length ≤ j) (hj : j < O.length) (e : O[j] ≠ x) (hl : verC x O[j] < 0) : InsAt x O (P ++ [x] ++ [O[j]]) true (j + 1) := by
  obtain ⟨h1, h2⟩ := h
  refine ⟨?_, by simp; omega⟩
  simp only [if_true, Bool.false_eq_true, if_false] at h1 ⊢
  rw [h1, List.drop_eq_getElem_cons hj, insV, if_neg (fun h => e h.symm), if_pos hl]
  simp
theorem insAt_on {x : List UInt8} {O P : List (List UInt8)} {j : Nat} (h : InsAt x O P false j) (hp : P.length ≤ j) (hj : j < O.length) (e : O[j] ≠ x) (hl : ¬ verC x O[j] < 0) : InsAt x O (P ++ [O[j]]) false (j + 1) := by
  obtain ⟨h1, h2⟩ := h
  refine ⟨?_, by simp; omega⟩
  simp only [Bool.false_eq_true, if_false] at h1 ⊢
  rw [h1, List.drop_eq_getElem_cons hj, insV, if_neg (fun h => e h.symm), if_neg hl]
  simp
theorem insAt_end {x : List UInt8} {O P : List (List UInt8)} {j : Nat} (h : InsAt x O P false j) (hj : O.length ≤ j) : insV x O = P ++ [x] := by
  obtain ⟨h1, h2⟩ := h
  simp only [Bool.false_eq_true, if_false] at h1
  rw [h1, List.drop_eq_nil_of_le hj, insV]
theorem insAt_end2 {x : List UInt8} {O P : List (List UInt8)} {j : Nat} (h : InsAt x O P true j) (hj : O.length ≤ j) : insV x O = P := by
  obtain ⟨h1, h2⟩ := h
  simp only [if_true] at h1
  rw [h1, List.drop_eq_nil_of_le hj, List.append_nil]
theorem rowV_snoc (l : List (List UInt8)) (k : Nat) (h : k < l.length) : rowV (l.take (k + 1)) = insV l[k] (rowV (l.take k)) := by
  unfold rowV
  rw [List.take_succ_eq_append_getElem h, List.foldl_append]; rfl
theorem insV_length (x : List UInt8) : ∀ (l : List (List UInt8)), (insV x l).length ≤ l.length + 1
  | [] => by simp [insV]
  | y :: ys => by
    have := insV_length x ys
    unfold insV
    split
    · simp
    · split <;> simp; omega
theorem rowV_length (l : List (List UInt8)) (k : Nat) : (rowV (l.take k)).length ≤ k := by
  induction k with
  | zero => simp [rowV]
  | succ k ih =>
    rcases Nat.lt_or_ge k l.length with h | h
    · rw [rowV_snoc l k h]; have := insV_length l[k] (rowV (l.take k)); omega
    · rw [List.take_of_length_le (by omega)]; rw [List.take_of_length_le h] at ih; omega
theorem rowV_small (l : List (List UInt8)) (h : Small l) (k : Nat) : Small (rowV (l.take k)) := fun x hx => h x (List.mem_of_mem_take ((rowV_mem x _).1 hx))

set_option maxRecDepth 100000 in
set_option maxHeartbeats 4000000 in
theorem refRow_calls (l : List (List UInt8)) (v : Value) (w : World) (hv : NamIn w v l) (hl : Small l) (hn : l.length ≤ 1048576) :
    Calls Tryd.prog 43 #[v] w fun e w' => ∃ v', e = .returned v' ∧ w'.ownsRow w.heap.size 9 1 v' (rowV l).length (namC (rowV l)) ∧ RowKit.Below w.heap.size w w' := by
  obtain ⟨i0, hi, hz0, hz1, hz2⟩ := info_parts infoStr
  obtain ⟨a, ca, rfl, hca⟩ := hv.at_
  have HCA := Lib.hid hca
  have HL := Lib.hid hl
  have hn' : (l.length : Int) ≤ 1048576 := by omega
  clear hca hv hl hn
  go_enter Tryd.func43, Tryd.ntmps43
  go_wp2_with fail
  go_loopw [3, 4] (fun o i wr => ∃ k : Nat, i = .int .i64 k ∧ (k : Int) ≤ l.length ∧ wr.ownsRow w.heap.size 9 1 o (rowV (l.take k)).length (namC (rowV (l.take k))) ∧ Below w.heap.size w wr) (fun _ i _ => l.length - (intOf i).toNat)
  case atStart => exact ⟨0, rfl, by omega, World.ownsRow_nil _ _ _ _, Below.refl _ _⟩
  case round =>
    obtain ⟨k, rfl, hk, hown, hb⟩ := hrel
    have HB := Lib.hid hb
    have hle := rowV_length l k
    have HSm := Lib.hid (rowV_small l HL.out k)
    by_cases hlt : (k : Int) < l.length
    · have hlt' : k < l.length := by omega
      have hsn := rowV_snoc l k hlt'
      have hsx := HL.out l[k] (List.getElem_mem hlt')
      obtain ⟨ao, co, rfl, hco⟩ := (NamIn.of_owns hown).at_
      have HCO := Lib.hid hco
      have HSN := Lib.hid hsn
      clear hco hsn hown hb
      obtain ⟨wo, rfl⟩ : ∃ wo : World, wo = wr := ⟨_, rfl⟩
      have hszo := HB.out.size
      generalize rowV (l.take k) = O at *
      generalize hxx : l[k] = x at *
      have HX : Hid (∀ W, Below wo.heap.size wo W → ∃ g off, a = some ⟨g, off, none⟩ ∧ W.cell? ⟨g, off + k, none⟩ = some (.string (strV x))) := fun W hW => by
        have := HCA.out W (HB.out.trans (hW.mono hszo)) k hlt'
        rw [hxx] at this
        exact this
      go_wp2_with fail
      go_loopw [5, 6, 7] (fun v d j wi => ∃ (P : List (List UInt8)) (done : Bool) (m : Nat), d = .bool done ∧ j = .int .i64 m ∧ (m : Int) ≤ O.length ∧ Hid (InsAt x O P done m) ∧ Hid (done = false → P.length ≤ m) ∧ wi.ownsRow wo.heap.size 9 1 v P.length (namC P) ∧ Below wo.heap.size wo wi) (fun _ _ j _ => O.length - (intOf j).toNat)
      case atStart => exact ⟨[], false, 0, rfl, rfl, by omega, ⟨rfl, by simp⟩, (fun _ => Nat.le_refl _), World.ownsRow_nil _ _ _ _, Below.refl _ _⟩
      case round =>
        obtain ⟨P, done, m, rfl, rfl, hm, hI, hPl, hown2, hb2⟩ := hrel
        have HO := Lib.hid hown2
        have HB2 := Lib.hid hb2
        have hsz2 := hb2.size
        have hPle := hI.out.2
        clear hown2 hb2
        by_cases hmo : (m : Int) < O.length
        · have hmo' : m < O.length := by omega
          obtain ⟨g1, o1, rfl, c1⟩ := HX.out wr HB2.out
          obtain ⟨g2, o2, rfl, c2⟩ := HCO.out wr HB2.out m hmo'
          have hsy := HSm.out _ (List.getElem_mem hmo')
          have hbeq := strV_beq O[m] x
          have HXc : Hid (∀ W, Below wo.heap.size wo W → W.cell? ⟨g1, o1 + k, none⟩ = some (.string (strV x))) := fun W hW => by
            obtain ⟨_, _, e, c⟩ := HX.out W hW
            cases e; exact c
          have HYc : Hid (∀ W, Below wo.heap.size wo W → W.cell? ⟨g2, o2 + m, none⟩ = some (.string (strV O[m]))) := fun W hW => by
            obtain ⟨_, _, e, c⟩ := HCO.out W hW m hmo'
            cases e; exact c
          have hkle : (k : Int) ≤ 1048576 := by omega
          have hole : O.length ≤ k := hle
          cases done with
          | true =>
            have hI2 := Lib.hid (insAt_done hI.out hmo').1
            generalize O[m] = y at *
            clear hbeq HCO HX
            go_wp2_with fail
            go_quiet (fail)
            have c3 : (wr.drewN nq).cell? ⟨g2, o2 + m, none⟩ = some (.string (strV y)) := c2
            have hown3 : (wr.drewN nq).ownsRow wo.heap.size 9 1 u5 P.length (namC P) := HO.out
            have hb3 : Below wo.heap.size wo (wr.drewN nq) := below_drewN HB2.out _
            have hsz3 : wo.heap.size ≤ (wr.drewN nq).heap.size := hsz2
            clear c1 c2
            generalize wr.drewN nq = wc at *
            go_wp2_with (at_builtin; refine wpList_append_own _ rfl _ _ 46 rfl wo.heap.size 9 i0 (.string ByteArray.empty) 1 16 Tryd.underlying46 hi hz0 hz1 hz2 rfl (by decide) _ _ _ rfl (hown3.alloc _) ⟨wc.heap.size, 0, none⟩ 1 1 [.string (strV y)] rfl rfl (cell_one_new _ _ _) (by simp [Value.oneCell']) (by unfold maxLen; omega) (by omega) (by simp; omega) ?_; intro v' w1 hown' hgrow _; obtain ⟨g', cap', rfl⟩ := ownsRow_succ hown')
            go_roundw
            case rel =>
              refine ⟨P ++ [y], true, m + 1, rfl, by go_num, by omega, hI2.out, (fun h => by cases h), ?_, (hb3.alloc hsz3 _).grown hgrow (by simp; omega) (fun r e => (hown3.lt r e).1)⟩
              rw [List.length_append, namC_snoc]
              exact hown'
            case measure => simp [intOf]; omega
          | false =>
            have hPm := hPl.out rfl
            by_cases hyx : O[m] = x
            · have hI2 := Lib.hid (insAt_same hI.out hPm hmo' hyx)
              rw [decide_eq_true hyx] at hbeq
              clear hyx
              generalize O[m] = y at *
              clear HCO HX
              go_wp2_with fail
              go_quiet (fail)
              have c3 : (wr.drewN nq).cell? ⟨g2, o2 + m, none⟩ = some (.string (strV y)) := c2
              have c4 : (wr.drewN nq).cell? ⟨g1, o1 + k, none⟩ = some (.string (strV x)) := c1
              have hown3 : (wr.drewN nq).ownsRow wo.heap.size 9 1 u5 P.length (namC P) := HO.out
              have hb3 : Below wo.heap.size wo (wr.drewN nq) := below_drewN HB2.out _
              have hsz3 : wo.heap.size ≤ (wr.drewN nq).heap.size := hsz2
              clear c1 c2
              generalize wr.drewN nq = wd at *
              go_wp2_with fail
              go_quiet (fail)
              have c5 : (wd.drewN nq).cell? ⟨g2, o2 + m, none⟩ = some (.string (strV y)) := c3
              have hown4 : (wd.drewN nq).ownsRow wo.heap.size 9 1 u5 P.length (namC P) := hown3
              have hb4 : Below wo.heap.size wo (wd.drewN nq) := below_drewN hb3 _
              have hsz4 : wo.heap.size ≤ (wd.drewN nq).heap.size := hsz3
              clear c3 c4 hown3 hb3 hsz3
              generalize wd.drewN nq = wc at *
              go_wp2_with (at_builtin; refine wpList_append_own _ rfl _ _ 46 rfl wo.heap.size 9 i0 (.string ByteArray.empty) 1 16 Tryd.underlying46 hi hz0 hz1 hz2 rfl (by decide) _ _ _ rfl (hown4.alloc _) ⟨wc.heap.size, 0, none⟩ 1 1 [.string (strV y)] rfl rfl (cell_one_new _ _ _) (by simp [Value.oneCell']) (by unfold maxLen; omega) (by omega) (by simp; omega) ?_; intro v' w1 hown' hgrow _; obtain ⟨g', cap', rfl⟩ := ownsRow_succ hown')
              go_roundw
              case rel =>
                refine ⟨P ++ [y], true, m + 1, rfl, by go_num, by omega, hI2.out, (fun h => by cases h), ?_, (hb4.alloc hsz4 _).grown hgrow (by simp; omega) (fun r e => (hown4.lt r e).1)⟩
                rw [List.length_append, namC_snoc]
                exact hown'
              case measure => simp [intOf]; omega
            · rw [decide_eq_false hyx] at hbeq
              have HLs := fun W => refLess_calls x O[m] W hsx hsy
              have hA := insAt_ahead hI.out hPm hmo' hyx
              have hO := insAt_on hI.out hPm hmo' hyx
              clear hyx
              generalize O[m] = y at *
              clear HCO HX
              have HLS := Lib.hid HLs
              have HA := Lib.hid hA
              have HOn := Lib.hid hO
              clear HLs hA hO
              generalize hlv : decide (verC x y < 0) = b at *
              have HLV := Lib.hid hlv
              clear hlv
              go_wp2_with fail
              go_region_held3 (fun w' => w'.cell? ⟨g1, o1 + k, none⟩ = some (.string (strV x)) ∧ w'.cell? ⟨g2, o2 + m, none⟩ = some (.string (strV y))) (first | exact ⟨c1, c2⟩ | assumption) (first | (go_at_call 71; refine (HLS.out _).mono ?_; rintro e w1 ⟨rfl, hb1⟩; have hBw1 : Below wo.heap.size wo w1 := (HB2.out.drew).trans (hb1.mono hsz2); have hS1 : w1.cell? ⟨g1, o1 + k, none⟩ = some (.string (strV x)) ∧ w1.cell? ⟨g2, o2 + m, none⟩ = some (.string (strV y)) := ⟨HXc.out _ hBw1, HYc.out _ hBw1⟩))
              obtain ⟨c3, c4⟩ := hS1
              have hown3 : w1.ownsRow wo.heap.size 9 1 u5 P.length (namC P) := ownsRow_below (w := wr.drew) HO.out hb1
              have hsz3 : wo.heap.size ≤ w1.heap.size := hBw1.size
              clear c1 c2 hb1
              rename_i hHeld
              clear hHeld
              have HB3 := Lib.hid hBw1
              have HO3 := Lib.hid hown3
              clear hBw1 hown3
              generalize w1 = wd at *
              cases b with
              | true =>
                have hI2 := Lib.hid (HA.out (of_decide_eq_true HLV.out))
                clear HLV HLS
                go_wp2_with fail
                go_quiet (fail)
                have c5 : (wd.drewN nq).cell? ⟨g1, o1 + k, none⟩ = some (.string (strV x)) := c3
                have hown4 : (wd.drewN nq).ownsRow wo.heap.size 9 1 u5 P.length (namC P) := HO3.out
                have hb4 : Below wo.heap.size wo (wd.drewN nq) := below_drewN HB3.out _
                have hsz4 : wo.heap.size ≤ (wd.drewN nq).heap.size := hsz3
                clear c3 c4
                generalize wd.drewN nq = wc at *
                have HO4 := Lib.hid hown4
                have HB4 := Lib.hid hb4
                clear hown4 hb4
                go_upto_region 13 with (at_builtin; refine wpList_append_own _ rfl _ _ 46 rfl wo.heap.size 9 i0 (.string ByteArray.empty) 1 16 Tryd.underlying46 hi hz0 hz1 hz2 rfl (by decide) _ _ _ rfl (HO4.out.alloc _) ⟨wc.heap.size, 0, none⟩ 1 1 [.string (strV x)] rfl rfl (cell_one_new _ _ _) (by simp [Value.oneCell']) (by unfold maxLen; omega) (by omega) (by simp; omega) ?_; intro v' w1 hown' hgrow _; obtain ⟨g', cap', rfl⟩ := ownsRow_succ hown')
                have hb5 : Below wo.heap.size wo w1 := (HB4.out.alloc hsz4 _).grown hgrow (by simp; omega) (fun r e => (HO4.out.lt r e).1)
                have hsz5 := hb5.size
                have c6 := HYc.out _ hb5
                have HO5 := Lib.hid hown'
                have HB5 := Lib.hid hb5
                clear hown' hb5 hgrow
                generalize w1 = we at *
                go_wp2_with (at_builtin; refine wpList_append_own _ rfl _ _ 46 rfl wo.heap.size 9 i0 (.string ByteArray.empty) 1 16 Tryd.underlying46 hi hz0 hz1 hz2 rfl (by decide) _ _ _ rfl (HO5.out.alloc _) ⟨we.heap.size, 0, none⟩ 1 1 [.string (strV y)] rfl rfl (cell_one_new _ _ _) (by simp [Value.oneCell']) (by unfold maxLen; omega) (by omega) (by simp; omega) ?_; intro v2 w2 hown2 hgrow2 _; obtain ⟨g3, cap3, rfl⟩ := ownsRow_succ hown2)
                go_roundw
                case rel =>
                  refine ⟨P ++ [x] ++ [y], true, m + 1, rfl, by go_num, by omega, hI2.out, (fun h => by cases h), ?_, (HB5.out.alloc hsz5 _).grown hgrow2 (by simp; omega) (fun r e => (HO5.out.lt r e).1)⟩
                  rw [List.length_append, List.length_append, namC_snoc, namC_snoc]
                  exact hown2
                case measure => simp [intOf]; omega
              | false =>
                have hI2 := Lib.hid (HOn.out (by have := of_decide_eq_false HLV.out; omega))
                clear HLV HLS
                go_wp2_with (at_builtin; refine wpList_append_own _ rfl _ _ 46 rfl wo.heap.size 9 i0 (.string ByteArray.empty) 1 16 Tryd.underlying46 hi hz0 hz1 hz2 rfl (by decide) _ _ _ rfl (HO3.out.alloc _) ⟨wd.heap.size, 0, none⟩ 1 1 [.string (strV y)] rfl rfl (cell_one_new _ _ _) (by simp [Value.oneCell']) (by unfold maxLen; omega) (by omega) (by simp; omega) ?_; intro v' w1 hown' hgrow _; obtain ⟨g', cap', rfl⟩ := ownsRow_succ hown')
                go_roundw
                case rel =>
                  refine ⟨P ++ [y], false, m + 1, rfl, by go_num, by omega, hI2.out, (fun _ => by rw [List.length_append]; simp; omega), ?_, (HB3.out.alloc hsz3 _).grown hgrow (by simp; omega) (fun r e => (HO3.out.lt r e).1)⟩
                  rw [List.length_append, namC_snoc]
                  exact hown'
                case measure => simp [intOf]; omega
        · have hmo' : O.length ≤ m := by omega
          obtain ⟨g1, o1, rfl, c1⟩ := HX.out wr HB2.out
          have hPm : P.length ≤ O.length + 1 := by omega
          cases done with
          | true =>
            have HE := Lib.hid (insAt_end2 hI.out hmo')
            go_wp2_with fail
            go_roundw
            case rel =>
              refine ⟨k + 1, by go_num, by omega, ?_, HB.out.trans (HB2.out.mono hszo)⟩
              rw [HSN.out, HE.out]
              exact ownsRow_wider HO.out hszo
            case measure => simp [intOf]; omega
          | false =>
            have HE := Lib.hid (insAt_end hI.out hmo')
            go_wp2_with (at_builtin; refine wpList_append_own _ rfl _ _ 46 rfl wo.heap.size 9 i0 (.string ByteArray.empty) 1 16 Tryd.underlying46 hi hz0 hz1 hz2 rfl (by decide) _ _ _ rfl (HO.out.alloc _) ⟨wr.heap.size, 0, none⟩ 1 1 [.string (strV x)] rfl rfl (cell_one_new _ _ _) (by simp [Value.oneCell']) (by unfold maxLen; omega) (by omega) (by simp; omega) ?_; intro v' w1 hown' hgrow _; obtain ⟨g', cap', rfl⟩ := ownsRow_succ hown')
            go_roundw
            case rel =>
              refine ⟨k + 1, by go_num, by omega, ?_, HB.out.trans (((HB2.out.alloc hsz2 _).grown hgrow (by simp; omega) (fun r e => (HO.out.lt r e).1)).mono hszo)⟩
              rw [HSN.out, HE.out, List.length_append, namC_snoc]
              exact ownsRow_wider hown' hszo
            case measure => simp [intOf]; omega
    · have hkl : k = l.length := by omega
      subst hkl
      rw [List.take_length] at hown
      have HO := Lib.hid hown
      clear hown hb
      go_wp2_with fail
      go_ret
      exact ⟨_, rfl, HO.out, HB.out⟩
end Go.Proofs.YtolaecdopfmbgaaDoor
