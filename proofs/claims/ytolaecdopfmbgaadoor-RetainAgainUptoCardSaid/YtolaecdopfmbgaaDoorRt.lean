/- retain.Keep: which names stay, and which go. Condition: at most 1048576 rules and names, patterns and names of at most 1048576 bytes. -/
import Derived.Test.YtolaecdopfmbgaaDoorRs
import Derived.Deep.RegionLaw
namespace Go.Proofs.YtolaecdopfmbgaaDoor
open Go.RowKit Go.Shelf

/-- the names that stay so far: those of no rule, and the last of the first k rules -/
def stayX (R : List Rul) (all : List (List UInt8)) (k : Nat) : List (List UInt8) := grp (ruleN R) all R.length ++ (List.range k).flatMap fun i => lastV (grp (ruleN R) all i) (lastOf R i)
theorem stayX_succ (R : List Rul) (all : List (List UInt8)) (k : Nat) : stayX R all (k + 1) = stayX R all k ++ lastV (grp (ruleN R) all k) (lastOf R k) := by
  unfold stayX; rw [List.range_succ, List.flatMap_append]; simp
theorem rowV_len (l : List (List UInt8)) : (rowV l).length ≤ l.length := by have := rowV_length l l.length; rwa [List.take_length] at this
theorem stayX_length (R : List Rul) (all : List (List UInt8)) (k : Nat) : (stayX R all k).length ≤ all.length * (k + 1) := by
  induction k with
  | zero => unfold stayX; simp; exact grp_le _ _ _
  | succ k ih =>
    rw [stayX_succ, List.length_append]
    have h1 := lastV_le (grp (ruleN R) all k) (lastOf R k)
    have h2 := rowV_len (grp (ruleN R) all k)
    have h3 := grp_le (ruleN R) all k
    have e : all.length * (k + 1 + 1) = all.length * (k + 1) + all.length := Nat.mul_succ _ _
    omega
theorem stayX_small (R : List Rul) (all : List (List UInt8)) (k : Nat) (h : Small all) : Small (stayX R all k) := by
  intro x hx
  unfold stayX at hx
  rcases List.mem_append.1 hx with hx | hx
  · exact h x ((grp_mem _ _ _).1 hx).1
  · obtain ⟨i, _, hi⟩ := List.mem_flatMap.1 hx
    exact h x ((grp_mem _ _ _).1 (lastV_mem _ _ _ hi)).1

/-- while names that stay are gathered -/
structure Half (w : World) (base T M m : Nat) (rv : Nat → Value) (f : Nat → List (List UInt8)) (v : Value) (X : List (List UInt8)) : Prop where
  cell : w.heap[T]? = some (.cells #[v] 46 (0, 0))
  own : w.ownsRow base 9 1 v X.length (namC X)
  row : w.rowIs M 46 (m + 1) rv
  rest : ∀ i, i < m → w.ownsRow base 9 1 (rv i) (f i).length (namC (f i)) ∧ Apart v (rv i)
  ne : T ≠ M
  low : base ≤ T
theorem Half.move {w w' : World} {base T M m : Nat} {rv : Nat → Value} {f : Nat → List (List UInt8)} {v : Value} {X : List (List UInt8)} (h : Half w base T M m rv f v X) (hb : Below w.heap.size w w') : Half w' base T M m rv f v X :=
  ⟨(hb.block T (lt_of_block h.cell)).trans h.cell, ownsRow_below h.own hb, h.row.of_block (hb.block M h.row.lt), fun i hi => ⟨ownsRow_below (h.rest i hi).1 hb, (h.rest i hi).2⟩, h.ne, h.low⟩
theorem own_ne_block {w : World} {b : Nat} {e e' : TypeId} {z : Nat} {v : Value} {n : Nat} {xs : List Value} {T : Nat} {c : Array Value} {fr : Nat × Nat} (h : w.ownsRow b e z v n xs) (hT : w.heap[T]? = some (.cells c e' fr)) (hne : e ≠ e') : v.ownBlock ≠ some T := by
  obtain ⟨_, (⟨rfl, _⟩ | ⟨g, cap, cur, rfl, _, h4, _⟩)⟩ := h
  · simp [Value.ownBlock]
  · intro e
    have : g = T := by simpa [Value.ownBlock] using e
    subst this
    rw [h4] at hT
    injection hT with hT
    injection hT with _ h2 _
    exact hne h2
theorem Half.push {w w1 : World} {base T M m : Nat} {rv : Nat → Value} {f : Nat → List (List UInt8)} {v v' : Value} {X Y : List (List UInt8)} (h : Half w base T M m rv f v X)
    (hown : w1.ownsRow base 9 1 v' (X ++ Y).length (namC (X ++ Y))) (hg : w.grownBy w1 v.ownBlock) (hat : v'.ownBlock = v.ownBlock ∨ v'.ownBlock = some w.heap.size) :
    Half (w1.setCell ⟨T, 0, none⟩ v') base T M m rv f v' (X ++ Y) ∧ w1.heap[T]? = some (.cells #[v] 46 (0, 0)) ∧ w1.rowIs M 46 (m + 1) rv := by
  have hT := h.cell
  have hTn := own_ne_block h.own hT (by decide)
  obtain ⟨cM, hM, _, _⟩ := h.row
  have hMn := own_ne_block h.own hM (by decide)
  have hT1 : w1.heap[T]? = some (.cells #[v] 46 (0, 0)) := (hg.block T (lt_of_block hT) (fun e => hTn e.symm)).trans hT
  have hr1 : w1.rowIs M 46 (m + 1) rv := h.row.of_block (hg.block M h.row.lt (fun e => hMn e.symm))
  have hvn := own_ne_block hown hT1 (by decide)
  refine ⟨⟨one_setCell hT1, owns_setCell hown _ _ hvn, hr1.setOther (fun e => h.ne e.symm) _, fun i hi => ?_, h.ne, h.low⟩, hT1, hr1⟩
  obtain ⟨r1, r2⟩ := h.rest i hi
  have r3 := owns_other (v7 := v) r1 hg r2
  refine ⟨owns_setCell r3 _ _ (own_ne_block r3 hT1 (by decide)), fun g hg' hg'' => ?_⟩
  rcases hat with hat | hat
  · exact r2 g (by rw [← hat]; exact hg') hg''
  · rw [hat] at hg'
    have := (r1.lt g hg'').2
    have : w.heap.size = g := by simpa using hg'
    omega

set_option maxRecDepth 100000 in
set_option maxHeartbeats 4000000 in
theorem keep_calls (R : List Rul) (l : List (List UInt8)) (va vb : Value) (w : World) (hva : RulIn w va R) (hs : RulS R) (hn : R.length ≤ 1048576) (hvb : NamIn w vb l) (hl : Small l) (hm : l.length ≤ 1048576) :
    Calls Tryd.prog 19 #[va, vb] w fun e w' => ∃ v1 v2, e = .returned (.tuple #[v1, v2]) ∧ w'.ownsRow w.heap.size 9 1 v1 (keepV R (rowV l)).1.length (namC (keepV R (rowV l)).1) ∧ w'.ownsRow w.heap.size 9 1 v2 (keepV R (rowV l)).2.length (namC (keepV R (rowV l)).2) ∧ Below w.heap.size w w' := by
  obtain ⟨i0, hi, hz0, hz1, hz2⟩ := info_parts infoStr
  have hrow := fun W (h : NamIn W vb l) => Row_calls l vb W h hl (by omega)
  have hlen : (rowV l).length ≤ 1048576 := by have := rowV_len l; omega
  have hsm : Small (rowV l) := fun x hx => hl x ((rowV_mem x l).1 hx)
  have hsrt := rowV_srt l
  generalize rowV l = all at *
  obtain ⟨a, ca, rfl, hca⟩ := hva.at_
  have HCA := Lib.hid hca
  have HR0 := Lib.hid hva
  have HROW := Lib.hid (hrow w hvb)
  have HS := Lib.hid hs
  have HSM := Lib.hid hsm
  have HSRT := Lib.hid hsrt
  have hlen' : (all.length : Int) ≤ 1048576 := by omega
  clear hva hvb hl hm hrow hca hs hsm hsrt
  go_enter Tryd.func19, Tryd.ntmps19
  go_wp2_with fail
  refine HROW.out.mono ?_
  rintro e w1 ⟨v6, rfl, o6, b6⟩
  have HO6 := Lib.hid o6
  have HN6 := Lib.hid (NamIn.of_owns o6)
  have HB6 := Lib.hid b6
  have hs6 := b6.size
  have HR1 := Lib.hid (HR0.out.below b6)
  clear o6 b6
  have HRT := Lib.hid (right23_calls R _ w1 HR1.out HS.out hn)
  by_cases hR0 : rightV R = 0
  · have h16 : R.length ≤ 16 := by
      rcases Nat.lt_or_ge 16 R.length with h | h
      · exfalso
        unfold rightV at hR0
        rw [if_pos h] at hR0
        omega
      · exact h
    have q0 : (rightV R != 0) = false := by simp [hR0]
    have hK : Hid (keepV R all = (stayP (ruleN R) R.length (lastOf R) all, goneP (ruleN R) R.length (lastOf R) all)) := by
      unfold Hid keepV
      rw [if_pos hR0, stay_eq all HSRT.out (ruleN_le R), gone_eq all HSRT.out (ruleN_le R)]
    generalize rightV R = rv0 at *
    clear hR0
    go_wp2_with fail
    refine HRT.out.mono ?_
    rintro e w2 ⟨rfl, b2⟩
    have HB2 := Lib.hid b2
    have hs2 := b2.size
    have HSP := Lib.hid (split_calls R all _ v6 w2 (HR1.out.below b2) HS.out hn (HN6.out.below b2) HSM.out hlen)
    clear b2
    go_wp2_with fail
    refine HSP.out.mono ?_
    rintro e w3 ⟨M, rv, rfl, hrows, b3⟩
    have HRW := Lib.hid hrows
    have HB3 := Lib.hid b3
    have hs3 := b3.size
    have cM := hrows.row.cell (i := R.length) (by omega)
    clear hrows b3
    obtain ⟨A0, c0, hrv0⟩ := owns_slice (HRW.out.own R.length (Nat.le_refl _))
    have hrv : Hid (Value.slice A0 (grp (ruleN R) all R.length).length c0 = rv R.length) := hrv0.symm
    rw [hrv0] at cM
    clear hrv0
    go_wp2_with fail
    have hHalf0 : Half (w3.alloc (.cells #[.slice A0 (grp (ruleN R) all R.length).length c0] 46)) w2.heap.size w3.heap.size M R.length rv (grp (ruleN R) all) (.slice A0 (grp (ruleN R) all R.length).length c0) (stayX R all 0) := by
      have e0 : stayX R all 0 = grp (ruleN R) all R.length := by unfold stayX; simp
      rw [e0]
      have hM := HRW.out.row.lt
      refine ⟨World.alloc_heap_new _ _, ?_, HRW.out.row.alloc _, fun i hi => ⟨(HRW.out.own i (by omega)).alloc _, ?_⟩, by omega, hs3⟩
      · rw [hrv.out]; exact (HRW.out.own R.length (Nat.le_refl _)).alloc _
      · rw [hrv.out]; exact HRW.out.sep R.length i (Nat.le_refl _) (by omega) (by omega)
    have hB4 : Below w2.heap.size w2 (w3.alloc (.cells #[.slice A0 (grp (ruleN R) all R.length).length c0] 46)) := HB3.out.alloc hs3 _
    have HH0 := Lib.hid hHalf0
    have HB4 := Lib.hid hB4
    have hTT : w3.heap.size < (w3.alloc (.cells #[.slice A0 (grp (ruleN R) all R.length).length c0] 46)).heap.size := by simp
    clear hHalf0 hB4 cM
    generalize w3.alloc (.cells #[.slice A0 (grp (ruleN R) all R.length).length c0] 46) = w4 at *
    generalize hTe : w3.heap.size = T at *
    have hRl : (R.length : Int) ≤ 16 := by omega
    clear HRT HSP
    go_loopw [27] (fun i wr => ∃ (k : Nat) (v : Value), i = .int .i64 k ∧ (k : Int) ≤ R.length ∧ Hid (Half wr w2.heap.size T M R.length rv (grp (ruleN R) all) v (stayX R all k)) ∧ Below w2.heap.size w2 wr) (fun i _ => R.length - (intOf i).toNat)
    case atStart => exact ⟨0, _, rfl, by omega, HH0.out, HB4.out⟩
    case round =>
      obtain ⟨k, v, rfl, hk, hH, hb⟩ := hrel
      have HB := Lib.hid hb
      have hsz := hb.size
      by_cases hlt : (k : Int) < R.length
      · have hlt' : k < R.length := by omega
        obtain ⟨g2, o2, rfl, hg2, c2, c3⟩ := HCA.out wr (HB6.out.trans ((HB2.out.mono hs6).trans (hb.mono (by omega)))) k hlt'
        have hsm := HS.out R[k] (List.getElem_mem hlt')
        have hlo : Hid (lastOf R k = R[k].2) := by unfold Hid lastOf; rw [List.getD_eq_getElem?_getD, List.getElem?_eq_getElem hlt']; rfl
        have hsx := Lib.hid (stayX_succ R all k)
        have hxl := stayX_length R all k
        have hll := lastV_le (grp (ruleN R) all k) (lastOf R k)
        have hrl := rowV_len (grp (ruleN R) all k)
        have hgl := grp_le (ruleN R) all k
        generalize hrr : R[k] = r at *
        obtain ⟨p, n⟩ := r
        obtain ⟨s1, s2, s3⟩ := hsm
        simp only at c2 c3 s2 s3
        have hlo2 : lastOf R k = n := hlo.out
        rw [hlo2] at hsx hll
        have hxl2 : (stayX R all k).length ≤ 1048576 * 17 := Nat.le_trans hxl (Nat.mul_le_mul hlen (by omega))
        have HLA : Hid (∀ W, Below wr.heap.size wr W → Calls Tryd.prog 39 #[rv k, .int .i64 n] W fun e w' => ∃ v', e = .returned v' ∧ NamIn w' v' (lastV (grp (ruleN R) all k) n) ∧ Below W.heap.size W w') := fun W hW =>
          last_calls (grp (ruleN R) all k) (rv k) n W (NamIn.of_owns ((hH.out.move hW).rest k hlt').1) (fun x hx => HSM.out x ((grp_mem _ _ _).1 hx).1) (by omega) (by omega) s2 s3
        have hcM : wr.cell? ⟨M, k, none⟩ = some (rv k) := hH.out.row.cell (by omega)
        have hcT := cell_of_one hH.out.cell
        have hMw := hH.out.row.lt
        have hTw := lt_of_block hH.out.cell
        have hTM := hH.out.ne
        have hXb : (stayX R all k).length + (lastV (grp (ruleN R) all k) n).length ≤ 134217728 := by omega
        clear hb hlo hlo2 hxl hll hrl hgl hxl2 hrr
        go_upto_region 9 with (fail)
        have hBs : Below wr.heap.size wr (wr.alloc (.cells #[.string (strV p), .int .i64 n] 80)) := (Below.refl _ _).alloc (Nat.le_refl _) _
        have hN10 : (wr.alloc (.cells #[.string (strV p), .int .i64 n] 80)).heap[wr.heap.size]? = some (.cells #[.string (strV p), .int .i64 n] 80 (0, 0)) := World.alloc_heap_new _ _
        have cM : (wr.alloc (.cells #[.string (strV p), .int .i64 n] 80)).cell? ⟨M, k, none⟩ = some (rv k) := (hBs.cell (p := ⟨M, k, none⟩) hMw).trans hcM
        have cT : (wr.alloc (.cells #[.string (strV p), .int .i64 n] 80)).cell? ⟨T, 0, none⟩ = some v := (hBs.cell (p := ⟨T, 0, none⟩) hTw).trans hcT
        have hlt10 : wr.heap.size < (wr.alloc (.cells #[.string (strV p), .int .i64 n] 80)).heap.size := by simp
        have hsS : wr.heap.size ≤ (wr.alloc (.cells #[.string (strV p), .int .i64 n] 80)).heap.size := by simp
        generalize wr.alloc (.cells #[.string (strV p), .int .i64 n] 80) = ws at *
        have HBs := Lib.hid hBs
        have HN10 := Lib.hid hN10
        have c10 := cell_of_row _ _ 1 _ _ _ hN10
        simp only [List.getElem?_toArray, List.getElem?_cons_succ, List.getElem?_cons_zero] at c10
        generalize hNe : wr.heap.size = N10 at *
        have hT10 : T ≠ N10 := by omega
        have hMT : M ≠ T := fun e => hTM e.symm
        have hN10T : N10 ≠ T := by omega
        have hw2N : w2.heap.size ≤ N10 := by omega
        clear hBs hN10 hcM hcT
        have hk1 : (k : Int) < (R.length : Int) + 1 := by omega
        have hk0 : (0 : Int) ≤ (k : Int) := Int.natCast_nonneg k
        go_region_law (first | (go_simp; go_at_call 39; refine (HLA.out _ HBs.out.drew).mono ?_; rintro e w5 ⟨v9, rfl, N9, b9⟩; have hB5 : Below N10 wr w5 := HBs.out.drew.trans (b9.mono hsS); have hH5 := Lib.hid (hH.out.move (by rw [hNe]; exact hB5)); have hb10 : Hid (w5.heap[N10]? = some (.cells #[.string (strV p), .int .i64 n] 80 (0, 0))) := (b9.block N10 hlt10).trans HN10.out; have hS5 : w5.cell? ⟨M, k, none⟩ = some (rv k) ∧ w5.cell? ⟨N10, 1, none⟩ = some (.int .i64 n) := ⟨hH5.out.row.cell (by omega), cell_of_row _ _ 1 _ _ _ hb10.out⟩; have cT5 : w5.cell? ⟨T, 0, none⟩ = some v := cell_of_one hH5.out.cell; have HN9 := Lib.hid N9; have hs5 : N10 ≤ w5.heap.size := Nat.le_trans hsS b9.size; clear N9 b9) | (refine step_append_names rfl _ _ rfl w2.heap.size i0 hi hz0 hz1 hz2 v (stayX R all k) rfl hH5.out.own _ rfl _ HN9.out hXb (Nat.le_trans hw2N hs5) ?_; intro v' w6 hown' hgrow hat; obtain ⟨A', c', rfl⟩ := owns_slice hown'; obtain ⟨hp6, hT6, hr6⟩ := hH5.out.push hown' hgrow hat; have hHF := Lib.hid hp6; have cT6 := cell_of_one hT6; have fT6 := free_of_one hT6; have hG6 := Lib.hid hgrow; have hlo6 := Lib.hid hH5.out.own.lt; have hb60 : w6.heap[N10]? = some (.cells #[.string (strV p), .int .i64 n] 80 (0, 0)) := (hgrow.block N10 (lt_of_block hb10.out) (fun e => own_ne_block hH5.out.own hb10.out (by decide) e.symm)).trans hb10.out; have hS6 : w6.cell? ⟨M, k, none⟩ = some (rv k) ∧ w6.cell? ⟨N10, 1, none⟩ = some (.int .i64 n) := ⟨hr6.cell (by omega), cell_of_row _ _ 1 _ _ _ hb60⟩; clear hp6 hT6 hgrow hat hown' hb60))
        all_goals
          (
            have hbF : Below w2.heap.size w2 w6 := (HB.out.trans (hB5.mono hw2N)).grown hG6.out (Nat.le_trans hw2N hs5) (fun r e => (hlo6.out r e).1)
            have HBF := Lib.hid (hbF.setCell (p := ⟨T, 0, none⟩) hs3 (.slice A' (stayX R all k ++ lastV (grp (ruleN R) all k) n).length c'))
            rw [← hsx.out] at hHF HBF
            have hlen1 : (stayX R all k).length + (lastV (grp (ruleN R) all k) n).length = (stayX R all (k + 1)).length := by rw [hsx.out, List.length_append]
            rw [hlen1]
            clear hbF
            go_wp2_with fail
            go_roundw
            case measure => simp [intOf]; omega
            case rel => exact ⟨k + 1, _, by go_num, by omega, hHF, HBF.out⟩)
      · have hke : k = R.length := by omega
        subst hke
        have hTc := cell_of_one hH.out.cell
        have hTf := free_of_one hH.out.cell
        have HSX := Lib.hid (stayX_small R all R.length HSM.out)
        have hxl := stayX_length R all R.length
        have hxl2 : (stayX R all R.length).length ≤ 1048576 * 17 := Nat.le_trans hxl (Nat.mul_le_mul hlen (by omega))
        have HRW2 := Lib.hid (fun W h => Row_calls (stayX R all R.length) v W h HSX.out (by omega))
        have HN := Lib.hid (NamIn.of_owns hH.out.own)
        clear hb
        have hHR := hH.out
        have hHRW := Lib.hid hHR
        clear hHR
        go_wp2_with fail
        refine (HRW2.out _ HN.out).mono ?_
        rintro e w5 ⟨v9, rfl, o9, b9⟩
        obtain ⟨A9, c9, rfl⟩ := owns_slice o9
        have hT5 : w5.heap[T]? = some (.cells #[v] 46 (0, 0)) := (b9.block T (lt_of_block hHRW.out.cell)).trans hHRW.out.cell
        have cT5 := cell_of_one hT5
        have fT5 := free_of_one hT5
        have HT5 := Lib.hid hT5
        have HO9 := Lib.hid o9
        have hlt5 := lt_of_block hT5
        have hb5 : Below w1.heap.size w1 w5 := (HB2.out.trans (HB.out.mono hs2)).trans (b9.mono (by omega))
        have HO65 := Lib.hid (ownsRow_below HO6.out hb5)
        have HB5 := Lib.hid hb5
        have hs5 := b9.size
        clear hT5 o9 hb5 b9
        go_upto_region 12 with (fail)
        have hvb6 : ∀ g, v6.ownBlock = some g → g < w1.heap.size := fun g hg => (HO6.out.lt g hg).2
        have cT : (w5.setCell ⟨T, 0, none⟩ (.slice A9 (rowV (stayX R all R.length)).length c9)).cell? ⟨T, 0, none⟩ = some (.slice A9 (rowV (stayX R all R.length)).length c9) := cell_of_one (one_setCell HT5.out)
        have o6s := owns_setCell HO65.out ⟨T, 0, none⟩ (.slice A9 (rowV (stayX R all R.length)).length c9) (own_ne_block HO65.out HT5.out (by decide))
        have o9s := owns_setCell HO9.out ⟨T, 0, none⟩ (.slice A9 (rowV (stayX R all R.length)).length c9) (own_ne_block HO9.out HT5.out (by decide))
        have hbs : Below w1.heap.size w1 (w5.setCell ⟨T, 0, none⟩ (.slice A9 (rowV (stayX R all R.length)).length c9)) := HB5.out.setCell (by show w1.heap.size ≤ T; omega) _
        have hTs : T < (w5.setCell ⟨T, 0, none⟩ (.slice A9 (rowV (stayX R all R.length)).length c9)).heap.size := by rw [World.size_setCell]; exact hlt5
        generalize w5.setCell ⟨T, 0, none⟩ (.slice A9 (rowV (stayX R all R.length)).length c9) = ws at *
        have hrl := rowV_len (stayX R all R.length)
        have hw1r : w1.heap.size ≤ wr.heap.size := by omega
        have hap : Hid (Apart v6 (.slice A9 (rowV (stayX R all R.length)).length c9)) := fun g h6 h9 => by
          have h1 := hvb6 g h6
          have h2 := (HO9.out.lt g h9).1
          omega
        have hT6 : v6.ownBlock ≠ some T := fun e => by
          have h1 := hvb6 T e
          omega
        have HDEL : Hid (∀ W, Below ws.heap.size ws W → Calls Tryd.prog 40 #[v6, .func (.func 41) #[] #[.pointer (some ⟨T, 0, none⟩)]] W fun e w' => ∃ v2, e = .returned v2 ∧ w'.ownsRow w.heap.size 9 1 v2 (goneP (ruleN R) R.length (lastOf R) all).length (namC (goneP (ruleN R) R.length (lastOf R) all)) ∧ W.grownBy w' v6.ownBlock) := fun W hW =>
          delete_calls all (rowV (stayX R all R.length)) v6 _ w.heap.size T W (ownsRow_below o6s hW) ((hW.cell (p := ⟨T, 0, none⟩) hTs).trans cT) (NamIn.of_owns (ownsRow_below o9s hW)) (by omega) hlen hT6 (fun A n c hA a ha h6 => hap.out a.block h6 (by
            injection hA with e1 e2 e3
            rw [e1, ha]
            rfl))
        have HO6S := Lib.hid o6s
        have HO9S := Lib.hid o9s
        have HBS := Lib.hid hbs
        have hss := hbs.size
        clear o6s o9s hbs
        go_region_held3 (fun w' => w'.cell? ⟨T, 0, none⟩ = some (.slice A9 (rowV (stayX R all R.length)).length c9)) (first | exact cT | assumption | go_keep) (first | (go_at_call 40; refine (HDEL.out _ (Below.refl _ ws).drew).mono ?_; rintro e w7 ⟨v2, rfl, o2, hg⟩; have HO2 := Lib.hid o2; have HG := Lib.hid hg; have cT7 : w7.cell? ⟨T, 0, none⟩ = some (.slice A9 (rowV (stayX R all R.length)).length c9) := (hg.cell (a := ⟨T, 0, none⟩) cT (fun e => hT6 e.symm)); clear o2 hg))
        go_wp2_with fail
        go_ret2
        have eK1 : (keepV R all).1 = rowV (stayX R all R.length) := by rw [hK.out]; rfl
        have eK2 : (keepV R all).2 = goneP (ruleN R) R.length (lastOf R) all := by rw [hK.out]
        rw [eK1, eK2]
        refine ⟨_, _, rfl, ownsRow_wider (owns_other (v7 := v6) (ownsRow_below HO9S.out ((Below.refl _ ws).drew)) HG.out hap.out) (by omega), HO2.out, ?_⟩
        exact ((HB6.out.trans (HBS.out.mono hs6)).drew).grown HG.out (by show w.heap.size ≤ ws.heap.size; omega) (fun r e => (HO6.out.lt r e).1)
  · have hK : keepV R all = (all, []) := by unfold keepV; rw [if_neg hR0]
    have q0 : (rightV R != 0) = true := by simpa using hR0
    generalize rightV R = rv0 at *
    clear hR0
    go_wp2_with fail
    refine HRT.out.mono ?_
    rintro e w2 ⟨rfl, b2⟩
    have HB2 := Lib.hid b2
    clear b2
    go_wp2_with fail
    go_ret2
    rw [hK]
    exact ⟨_, _, rfl, ownsRow_below HO6.out HB2.out, World.ownsRow_nil _ _ _ _, HB6.out.trans (HB2.out.mono hs6)⟩
end Go.Proofs.YtolaecdopfmbgaaDoor
