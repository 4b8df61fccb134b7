/- retain.split: names by the first rule that is theirs. Condition: at most 1048576 rules and names, patterns and names of at most 1048576 bytes. -/
import Derived.Deep.OwnRows
import Derived.Deep.LoopGhost
import Derived.WalkMore
import Derived.Outline
import Derived.Test.YtolaecdopfmbgaaDoorRp
namespace Go.Proofs.YtolaecdopfmbgaaDoor
open Go.RowKit Go.Shelf

/-- rows of names, each in a block of its own -/
structure Rows (w : World) (base M m : Nat) (rv : Nat → Value) (f : Nat → List (List UInt8)) : Prop where
  row : w.rowIs M 46 (m + 1) rv
  low : base ≤ M
  own : ∀ i, i ≤ m → w.ownsRow base 9 1 (rv i) (f i).length (namC (f i))
  sep : ∀ i j, i ≤ m → j ≤ m → i ≠ j → Apart (rv i) (rv j)
  far : ∀ i, i ≤ m → (rv i).ownBlock ≠ some M
theorem owns_setCell {w : World} {b : Nat} {e : TypeId} {z : Nat} {v : Value} {n : Nat} {xs : List Value} (h : w.ownsRow b e z v n xs) (a : Addr) (u : Value) (hne : v.ownBlock ≠ some a.block) : (w.setCell a u).ownsRow b e z v n xs := by
  obtain ⟨h1, (⟨h2, h3⟩ | ⟨g, cap, cur, rfl, h3, h4, h5⟩)⟩ := h
  · exact ⟨h1, .inl ⟨h2, h3⟩⟩
  · refine ⟨h1, .inr ⟨g, cap, cur, rfl, h3, ?_, h5⟩⟩
    rw [heap_setCell_other _ _ _ _ (fun e => hne (by subst e; rfl))]
    exact h4
theorem Rows.move {w w' : World} {base M m : Nat} {rv : Nat → Value} {f : Nat → List (List UInt8)} (h : Rows w base M m rv f) (hb : Below w.heap.size w w') : Rows w' base M m rv f :=
  ⟨h.row.of_block (hb.block M h.row.lt), h.low, fun i hi => ownsRow_below (h.own i hi) hb, h.sep, h.far⟩
theorem Rows.congr {w : World} {base M m : Nat} {rv : Nat → Value} {f g : Nat → List (List UInt8)} (h : Rows w base M m rv f) (e : ∀ i, i ≤ m → f i = g i) : Rows w base M m rv g :=
  ⟨h.row, h.low, fun i hi => by rw [← e i hi]; exact h.own i hi, h.sep, h.far⟩
theorem Rows.push {w w1 : World} {base M m : Nat} {rv : Nat → Value} {f : Nat → List (List UInt8)} {o : Obj} (h : Rows w base M m rv f) {i : Nat} (hi : i ≤ m) (x : List UInt8) {g n c : Nat}
    (hown : w1.ownsRow base 9 1 (.slice (some ⟨g, 0, none⟩) n c) ((f i).length + 1) (namC (f i) ++ [.string (strV x)])) (hg : (w.alloc o).grownBy w1 (rv i).ownBlock) (hat : (rv i).ownBlock = some g ∨ g = w.heap.size + 1) :
    w1.rowIs M 46 (m + 1) rv ∧ Rows (w1.setCell ⟨M, i, none⟩ (.slice (some ⟨g, 0, none⟩) n c)) base M m (fun j => if j = i then .slice (some ⟨g, 0, none⟩) n c else rv j) (fun j => if j = i then f i ++ [x] else f j) := by
  have hM := h.row.lt
  have hgM : g ≠ M := by
    rcases hat with hat | hat
    · intro e; exact h.far i hi (by rw [hat, e])
    · omega
  have hr1 : w1.rowIs M 46 (m + 1) rv := (h.row.alloc o).of_block (hg.block M (by rw [World.size_alloc]; omega) (fun e => h.far i hi e.symm))
  have hoth : ∀ j, j ≤ m → j ≠ i → w1.ownsRow base 9 1 (rv j) (f j).length (namC (f j)) := fun j hj hji => owns_other (v7 := rv i) ((h.own j hj).alloc o) hg (h.sep i j hi hj (fun e => hji e.symm))
  have hnew : ∀ j, j ≤ m → j ≠ i → Apart (.slice (some ⟨g, 0, none⟩) n c) (rv j) := fun j hj hji => Apart.next (h.sep i j hi hj (fun e => hji e.symm)) (h.own j hj) (Nat.le_succ _) hat
  refine ⟨hr1, hr1.set i _, h.low, fun j hj => ?_, fun j k hj hk hjk => ?_, fun j hj => ?_⟩
  · by_cases e : j = i
    · subst e
      simp only [if_true]
      rw [namC_snoc, List.length_append]
      exact owns_setCell hown _ _ (by simpa [Value.ownBlock] using hgM)
    · simp only [if_neg e]
      exact owns_setCell (hoth j hj e) _ _ (h.far j hj)
  · by_cases e : j = i
    · subst e
      simp only [if_true, if_neg (fun h => hjk h.symm : ¬ k = j)]
      exact hnew k hk (fun h => hjk h.symm)
    · by_cases e2 : k = i
      · subst e2
        simp only [if_true, if_neg hjk]
        exact (hnew j hj hjk).swap
      · simp only [if_neg e, if_neg e2]
        exact h.sep j k hj hk hjk
  · by_cases e : j = i
    · simp only [if_pos e]; simpa [Value.ownBlock] using hgM
    · simp only [if_neg e]; exact h.far j hj
theorem grp_snoc (ru : List UInt8 → Nat) (l : List (List UInt8)) (x : List UInt8) (j : Nat) : grp ru (l ++ [x]) j = if j = ru x then grp ru l (ru x) ++ [x] else grp ru l j := by
  rw [grp_append]
  by_cases e : j = ru x
  · subst e; rw [if_pos rfl]; unfold grp; simp
  · rw [if_neg e]; unfold grp; have e' : ¬ ru x = j := fun h => e h.symm
    simp [e']
theorem infoRow : (Tryd.prog.info? 46).map (fun i => (i.zero, i.size, i.bytes)) = some (some (.slice none 0 0), 1, 24) := by kernel_rfl
theorem grp_le (ru : List UInt8 → Nat) (l : List (List UInt8)) (j : Nat) : (grp ru l j).length ≤ l.length := List.length_filter_le _ _

set_option maxRecDepth 100000 in
set_option maxHeartbeats 4000000 in
theorem split_calls (R : List Rul) (all : List (List UInt8)) (va vb : Value) (w : World) (hva : RulIn w va R) (hs : RulS R) (hn : R.length ≤ 1048576) (hvb : NamIn w vb all) (hl : Small all) (hm : all.length ≤ 1048576) :
    Calls Tryd.prog 38 #[va, vb] w fun e w' => ∃ M rv, e = .returned (.slice (some ⟨M, 0, none⟩) (R.length + 1) (R.length + 1)) ∧ Rows w' w.heap.size M R.length rv (grp (ruleN R) all) ∧ Below w.heap.size w w' := by
  obtain ⟨i0, hi, hz0, hz1, hz2⟩ := info_parts infoStr
  obtain ⟨a, ca, rfl, hca⟩ := hva.at_
  obtain ⟨b, cb, rfl, hcb⟩ := hvb.at_
  have HCA := Lib.hid hca
  have HCB := Lib.hid hcb
  have HS := Lib.hid hs
  have HSM := Lib.hid hl
  have hm' : (all.length : Int) ≤ 1048576 := by omega
  have hn' : (R.length : Int) ≤ 1048576 := by omega
  obtain ⟨j0, hj, hy0, hy1, hy2⟩ := info_parts infoRow
  have hby : j0.bytes * (R.length + 1) ≤ 281474976710656 := by rw [hy2]; omega
  have HBY := Lib.hid hby
  clear hby
  clear hva hvb hl hca hcb hs
  go_enter Tryd.func38, Tryd.ntmps38
  go_wp2_with fail
  go_step3
  go_wp2_with (refine wpList_make_row _ rfl _ _ 77 rfl 46 j0 (.slice none 0 0) Tryd.underlying77 hj hy0 hy1 rfl .i64 .i64 (R.length + 1) rfl rfl HBY.out (by omega) ?_)
  go_step3
  have hM0 : Rows (w.alloc (.cells (madeCells #[.slice none 0 0] (R.length + 1)) 46)) w.heap.size w.heap.size R.length (fun _ => .slice none 0 0) (grp (ruleN R) (all.take 0)) :=
    ⟨World.rowIs_made _ _ _ _, Nat.le_refl _, fun i _ => World.ownsRow_nil _ _ _ _, fun i j _ _ _ g h => by simp [Value.ownBlock] at h, fun i _ h => by simp [Value.ownBlock] at h⟩
  have hB0 : Below w.heap.size w (w.alloc (.cells (madeCells #[.slice none 0 0] (R.length + 1)) 46)) := (Below.refl _ _).alloc (Nat.le_refl _) _
  generalize w.alloc (.cells (madeCells #[.slice none 0 0] (R.length + 1)) 46) = w0 at *
  have HM0 := Lib.hid hM0
  have HB0 := Lib.hid hB0
  clear hM0 hB0
  generalize hMM : w.heap.size = M at *
  go_wp2_with fail
  go_loopg [16] all.length (fun n i wr => ∃ (k : Nat) (rv : Nat → Value), i = .int .i64 k ∧ (k : Int) + n = all.length ∧ Hid (Rows wr M M R.length rv (grp (ruleN R) (all.take k))) ∧ Below M w wr)
  case atStart => exact ⟨0, fun _ => .slice none 0 0, rfl, by omega, HM0.out, HB0.out⟩
  case round =>
    obtain ⟨k, rv, rfl, hk, hR, hb⟩ := hrel
    have HB := Lib.hid hb
    by_cases hlt : (k : Int) < all.length
    · have hlt' : k < all.length := by omega
      obtain ⟨g1, o1, rfl, c1⟩ := HCB.out wr hb k hlt'
      have hxs := HSM.out _ (List.getElem_mem hlt')
      have hsn : all.take (k + 1) = all.take k ++ [all[k]] := List.take_succ_eq_append_getElem hlt'
      have hle : (all.take k).length ≤ k := List.length_take_le _ _
      generalize all[k] = x at *
      have hmt := fun p W (hp : p.length ≤ 1048576) => Gl.match8_calls (strV p) (strV x) W (by rw [strV_size]; omega) (by rw [strV_size]; omega)
      simp only [strV_data] at hmt
      have HMT := Lib.hid hmt
      have HSN := Lib.hid hsn
      generalize all.take k = X at *
      have hsz := hb.size
      rw [hMM] at hsz
      clear hmt hsn hb
      obtain ⟨wo, rfl⟩ : ∃ wo : World, wo = wr := ⟨_, rfl⟩
      obtain ⟨go, rfl⟩ : ∃ go : Nat, go = gk := ⟨_, rfl⟩
      go_wp2_with fail
      go_loopg [22] R.length (fun n j wi => ∃ q : Nat, j = .int .i64 q ∧ (q : Int) + n = R.length ∧ Hid (ruleN R x = q + ruleN (R.drop q) x) ∧ Hid (Rows wi M M R.length rv (grp (ruleN R) X)) ∧ Below M w wi)
      case atStart => exact ⟨0, rfl, by omega, by simp [Hid], hR, HB.out⟩
      case round =>
        obtain ⟨q, rfl, hq, hru, HRW0, hbi⟩ := hrel
        have hszi := hbi.size
        rw [hMM] at hszi
        by_cases hqt : (q : Int) < R.length
        · have hqt' : q < R.length := by omega
          obtain ⟨g2, o2, rfl, hg2, c2, c3⟩ := HCA.out wr hbi q hqt'
          have hsm := (HS.out R[q] (List.getElem_mem hqt')).1
          have hat := ruleN_at R x q hqt'
          generalize R[q] = r at *
          obtain ⟨p, n⟩ := r
          simp only at hat c2 c3 hsm
          have hc := fun W => HMT.out p W hsm
          generalize Gl.matchG p x = b at *
          have HC := Lib.hid hc
          have HBI := Lib.hid hbi
          clear hc hbi
          have hgl := grp_le (ruleN R) X q
          cases b with
          | true =>
            have hrx : ruleN R x = q := by rw [hru.out, hat]; rfl
            have HRX := Lib.hid hrx
            clear hat hrx
            go_wp2_with (first | (go_at_call 68; refine (HC.out _).mono ?_; rintro e w3 ⟨rfl, hb3⟩; have hb4 : Below wr.heap.size wr w3 := ((Below.refl _ wr).alloc (Nat.le_refl _) _).trans (hb3.mono (by simp)); have HRW := Lib.hid (HRW0.out.move hb4); have cM := HRW.out.row.cell (i := q) (by omega); have fM := HRW.out.row.frozen q; have hown := HRW.out.own q (by omega); have hbw : Below M w w3 := HBI.out.trans (hb4.mono hszi); have hs3 : M ≤ w3.heap.size := Nat.le_trans hszi hb4.size; clear hb3 hb4) | (at_builtin; refine wpList_append_lies _ rfl _ _ 46 rfl M 9 i0 (.string ByteArray.empty) 1 16 Tryd.underlying46 hi hz0 hz1 hz2 rfl (by decide) _ _ _ rfl (hown.alloc _) ⟨w3.heap.size, 0, none⟩ 1 1 [.string (strV x)] rfl rfl (cell_one_new _ _ _) (by simp [Value.oneCell']) (by decide) (by unfold maxLen; omega) (by omega) (by simp; omega) (w3.heap.size + 1) (by simp) ?_; intro g' cap' w4 hown' hgrow hat hlt4; obtain ⟨hp1, hp2⟩ := HRW.out.push (by omega) x hown' hgrow hat; have cM' := hp1.cell (i := q) (by omega); have fM' := hp1.frozen q; have HP2 := Lib.hid hp2; have HBF : Hid (Below M w w4) := (hbw.alloc hs3 _).grown hgrow (by simp; omega) (fun r e => (hown.lt r e).1); clear hp2 hp1))
            go_roundg (go - 1)
            case measure => omega
            case rel =>
              refine ⟨k + 1, _, by go_num, by omega, HP2.out.congr fun j hj => ?_, HBF.out.setCell (Nat.le_refl _) _⟩
              rw [HSN.out, grp_snoc, HRX.out]
          | false =>
            have hrx : ruleN R x = (q + 1) + ruleN (R.drop (q + 1)) x := by rw [hru.out, hat, if_neg (by simp)]; omega
            have HRX := Lib.hid hrx
            clear hat hrx
            go_wp2_with (go_at_call 68; refine (HC.out _).mono ?_; rintro e w3 ⟨rfl, hb3⟩; have hb4 : Below wr.heap.size wr w3 := ((Below.refl _ wr).alloc (Nat.le_refl _) _).trans (hb3.mono (by simp)); have HRW := Lib.hid (HRW0.out.move hb4); have hbw : Below M w w3 := HBI.out.trans (hb4.mono hszi); clear hb3 hb4)
            go_roundg (gk - 1)
            case measure => omega
            case rel => exact ⟨q + 1, by go_num, by omega, HRX.out, HRW, hbw⟩
        · have hqe : q = R.length := by omega
          have hrx : ruleN R x = R.length := by rw [hru.out, List.drop_eq_nil_of_le (by omega)]; simp [ruleN]; omega
          have HRX := Lib.hid hrx
          have hgl := grp_le (ruleN R) X R.length
          have HRW := HRW0
          have cM := HRW.out.row.cell (i := R.length) (by omega)
          have fM := HRW.out.row.frozen R.length
          have hown := HRW.out.own R.length (by omega)
          have hbw := hbi
          have hs3 := hszi
          subst hqe
          clear hrx hbi
          go_wp2_with (at_builtin; refine wpList_append_lies _ rfl _ _ 46 rfl M 9 i0 (.string ByteArray.empty) 1 16 Tryd.underlying46 hi hz0 hz1 hz2 rfl (by decide) _ _ _ rfl (hown.alloc _) ⟨wr.heap.size, 0, none⟩ 1 1 [.string (strV x)] rfl rfl (cell_one_new _ _ _) (by simp [Value.oneCell']) (by decide) (by unfold maxLen; omega) (by omega) (by simp; omega) (wr.heap.size + 1) (by simp) ?_; intro g' cap' w4 hown' hgrow hat hlt4; obtain ⟨hp1, hp2⟩ := HRW.out.push (by omega) x hown' hgrow hat; have cM' := hp1.cell (i := R.length) (by omega); have fM' := hp1.frozen R.length; have HP2 := Lib.hid hp2; have HBF : Hid (Below M w w4) := (hbw.alloc hs3 _).grown hgrow (by simp; omega) (fun r e => (hown.lt r e).1); clear hp2 hp1)
          go_roundg (go - 1)
          case measure => omega
          case rel =>
            refine ⟨k + 1, _, by go_num, by omega, HP2.out.congr fun j hj => ?_, HBF.out.setCell (Nat.le_refl _) _⟩
            rw [HSN.out, grp_snoc, HRX.out]
    · have hkl : k = all.length := by omega
      subst hkl
      rw [List.take_length] at hR
      have HB2 := Lib.hid hb
      clear hb
      go_wp2_with fail
      subst hMM
      go_ret
      exact ⟨w.heap.size, rv, rfl, hR.out, HB2.out⟩
end Go.Proofs.YtolaecdopfmbgaaDoor
