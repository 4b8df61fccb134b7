/- What is wrong with rules, as the program and as the reference say it; which rule is a name's. Condition: at most 1048576 rules, patterns and names of at most 1048576 bytes. -/
import Derived.Test.YtolaecdopfmbgaaDoorGlV
import Derived.Test.YtolaecdopfmbgaaDoorRn
namespace Go.Proofs.YtolaecdopfmbgaaDoor
open Go.RowKit Go.Shelf

def rightR : List Rul → Int
  | [] => 0
  | r :: R => if Gl.rightG r.1 ≠ 0 then Gl.rightG r.1 else if r.2 < 0 then 2 else rightR R
def rightV (R : List Rul) : Int := if 16 < R.length then 8 else rightR R
theorem rightR_at (R : List Rul) (k : Nat) (h : k < R.length) : rightR (R.drop k) = if Gl.rightG R[k].1 ≠ 0 then Gl.rightG R[k].1 else if R[k].2 < 0 then 2 else rightR (R.drop (k + 1)) := by
  rw [List.drop_eq_getElem_cons h, rightR]
def RulS (R : List Rul) : Prop := ∀ r ∈ R, r.1.length ≤ 1048576 ∧ -9223372036854775808 ≤ r.2 ∧ r.2 ≤ 9223372036854775807

set_option maxRecDepth 100000 in
set_option maxHeartbeats 2000000 in
theorem right23_calls (R : List Rul) (v : Value) (w : World) (hv : RulIn w v R) (hs : RulS R) (hn : R.length ≤ 1048576) :
    Calls Tryd.prog 23 #[v] w fun e w' => e = .returned (.int .i64 (rightV R)) ∧ Below w.heap.size w w' := by
  obtain ⟨a, ca, rfl, hca⟩ := hv.at_
  have HCA := Lib.hid hca
  have HS := Lib.hid hs
  have hn' : (R.length : Int) ≤ 1048576 := by omega
  clear hca hv hn hs
  by_cases h16 : (16 : Int) < R.length
  · have hr : Hid (rightV R = 8) := by unfold Hid rightV; rw [if_pos (by omega)]
    generalize rightV R = r at *
    go_enter Tryd.func23, Tryd.ntmps23
    go_wp2_with fail
    go_ret
    exact ⟨retI hr.out.symm, Below.refl _ _⟩
  · have hr : Hid (rightV R = rightR R) := by unfold Hid rightV; rw [if_neg (by omega)]
    generalize rightV R = r at *
    go_enter Tryd.func23, Tryd.ntmps23
    go_wp2_with fail
    go_loopw [11] (fun i wr => ∃ k : Nat, i = .int .i64 k ∧ (k : Int) ≤ R.length ∧ Hid (r = rightR (R.drop k)) ∧ Below w.heap.size w wr) (fun i _ => R.length - (intOf i).toNat)
    case atStart => exact ⟨0, rfl, by omega, hr.out, Below.refl _ _⟩
    case round =>
      obtain ⟨k, rfl, hk, hx, hb⟩ := hrel
      have HB := Lib.hid hb
      by_cases hlt : (k : Int) < R.length
      · have hlt' : k < R.length := by omega
        obtain ⟨g, off, rfl, hgl, c1, c2⟩ := HCA.out wr hb k hlt'
        have hat := rightR_at R k hlt'
        have hsz := hb.size
        have hsm := HS.out R[k] (List.getElem_mem hlt')
        generalize R[k] = q at *
        obtain ⟨p, n⟩ := q
        obtain ⟨s1, s2, s3⟩ := hsm
        have hc := fun W => Gl.right_calls (strV p) W (by rw [strV_size]; simp only at s1; omega)
        rw [strV_data] at hc
        simp only at hat s2 s3 c1 c2
        generalize Gl.rightG p = e0 at *
        have HC := Lib.hid hc
        have HAT := Lib.hid hat
        clear hat hb hc
        by_cases h1 : e0 = 0
        · have q : (e0 != 0) = false := by simp [h1]
          by_cases h2 : n < 0
          · have HF : Hid (r = 2) := by unfold Hid; rw [hx.out, HAT.out, if_neg (by simp [h1]), if_pos h2]
            clear h1
            go_wp2_with (go_at_call 45; refine (HC.out _).mono ?_; rintro e w1 ⟨rfl, hb1⟩; have d2 : w1.cell? ⟨wr.heap.size, 1, none⟩ = some (.int .i64 n) := by rw [hb1.cell (p := ⟨wr.heap.size, 1, none⟩) (by simp)]; simp)
            go_ret
            exact ⟨retI HF.out.symm, (HB.out.alloc hsz _).trans (hb1.mono (by simp; omega))⟩
          · have HF : Hid (r = rightR (R.drop (k + 1))) := by unfold Hid; rw [hx.out, HAT.out, if_neg (by simp [h1]), if_neg h2]
            clear h1
            go_wp2_with (go_at_call 45; refine (HC.out _).mono ?_; rintro e w1 ⟨rfl, hb1⟩; have d2 : w1.cell? ⟨wr.heap.size, 1, none⟩ = some (.int .i64 n) := by rw [hb1.cell (p := ⟨wr.heap.size, 1, none⟩) (by simp)]; simp)
            go_roundw
            case rel => exact ⟨k + 1, by go_num, by omega, HF.out, (HB.out.alloc hsz _).trans (hb1.mono (by simp; omega))⟩
            case measure => simp [intOf]; omega
        · have q : (e0 != 0) = true := by simp [h1]
          have HF : Hid (r = e0) := by unfold Hid; rw [hx.out, HAT.out, if_pos h1]
          clear h1
          go_wp2_with (go_at_call 45; refine (HC.out _).mono ?_; rintro e w1 ⟨rfl, hb1⟩; have d2 : w1.cell? ⟨wr.heap.size, 1, none⟩ = some (.int .i64 n) := by rw [hb1.cell (p := ⟨wr.heap.size, 1, none⟩) (by simp)]; simp)
          go_ret
          exact ⟨retI HF.out.symm, (HB.out.alloc hsz _).trans (hb1.mono (by simp; omega))⟩
      · have HE : Hid (rightR (R.drop k) = 0) := by unfold Hid; rw [List.drop_eq_nil_of_le (by omega)]; rfl
        go_wp2_with fail
        go_ret
        exact ⟨retI (by rw [hx.out, HE.out]), HB.out⟩

set_option maxRecDepth 100000 in
set_option maxHeartbeats 2000000 in
theorem right24_calls (R : List Rul) (v : Value) (w : World) (hv : RulIn w v R) (hs : RulS R) (hn : R.length ≤ 1048576) :
    Calls Tryd.prog 24 #[v] w fun e w' => e = .returned (.int .i64 (rightV R)) ∧ ∃ n, w' = w.drewN n := by
  obtain ⟨a, ca, rfl, hca⟩ := hv.at_
  have HCA := Lib.hid hca
  have HS := Lib.hid hs
  have hn' : (R.length : Int) ≤ 1048576 := by omega
  clear hca hv hn hs
  by_cases h16 : (16 : Int) < R.length
  · have hr : Hid (rightV R = 8) := by unfold Hid rightV; rw [if_pos (by omega)]
    generalize rightV R = r at *
    go_enter Tryd.func24, Tryd.ntmps24
    go_wp2_with fail
    go_ret
    exact ⟨retI hr.out.symm, 0, rfl⟩
  · have hr : Hid (rightV R = rightR R) := by unfold Hid rightV; rw [if_neg (by omega)]
    generalize rightV R = r at *
    go_enter Tryd.func24, Tryd.ntmps24
    go_wp2_with fail
    go_loopw [3] (fun i wr => ∃ k m : Nat, i = .int .i64 k ∧ (k : Int) ≤ R.length ∧ Hid (r = rightR (R.drop k)) ∧ wr = w.drewN m) (fun i _ => R.length - (intOf i).toNat)
    case atStart => exact ⟨0, 0, rfl, by omega, hr.out, rfl⟩
    case round =>
      obtain ⟨k, m, rfl, hk, hx, rfl⟩ := hrel
      by_cases hlt : (k : Int) < R.length
      · have hlt' : k < R.length := by omega
        obtain ⟨g, off, rfl, hgl, c1, c2⟩ := HCA.out (w.drewN m) (below_drewN (Below.refl _ _) m) k hlt'
        have hat := rightR_at R k hlt'
        have hsm := HS.out R[k] (List.getElem_mem hlt')
        generalize R[k] = q at *
        obtain ⟨p, n⟩ := q
        obtain ⟨s1, s2, s3⟩ := hsm
        have hc := fun W => Gl.right7_calls (strV p) W (by rw [strV_size]; simp only at s1; omega)
        rw [strV_data] at hc
        simp only at hat s2 s3 c1 c2
        generalize Gl.rightG p = e0 at *
        have HC := Lib.hid hc
        have HAT := Lib.hid hat
        have HM : Hid (∀ q, (w.drewN m).drewN q = w.drewN (m + q)) := fun q => World.drewN_drewN _ _ _
        clear hat hc
        generalize w.drewN m = w3 at *
        by_cases h1 : e0 = 0
        · have q : (e0 != 0) = false := by simp [h1]
          by_cases h2 : n < 0
          · have HF : Hid (r = 2) := by unfold Hid; rw [hx.out, HAT.out, if_neg (by simp [h1]), if_pos h2]
            clear h1
            go_wp2_with (go_at_call 46; refine (HC.out _).mono ?_; rintro e w1 ⟨rfl, nq, rfl⟩; have d1 : (w3.drewN nq).cell? ⟨g, off + k * 2, none⟩ = some (.string (strV p)) := c1; have d2 : (w3.drewN nq).cell? ⟨g, off + k * 2 + 1, none⟩ = some (.int .i64 n) := c2)
            go_ret
            exact ⟨retI HF.out.symm, _, HM.out _⟩
          · have HF : Hid (r = rightR (R.drop (k + 1))) := by unfold Hid; rw [hx.out, HAT.out, if_neg (by simp [h1]), if_neg h2]
            clear h1
            go_wp2_with (go_at_call 46; refine (HC.out _).mono ?_; rintro e w1 ⟨rfl, nq, rfl⟩; have d1 : (w3.drewN nq).cell? ⟨g, off + k * 2, none⟩ = some (.string (strV p)) := c1; have d2 : (w3.drewN nq).cell? ⟨g, off + k * 2 + 1, none⟩ = some (.int .i64 n) := c2)
            go_roundw
            case rel => exact ⟨k + 1, _, by go_num, by omega, HF.out, HM.out _⟩
            case measure => simp [intOf]; omega
        · have q : (e0 != 0) = true := by simp [h1]
          have HF : Hid (r = e0) := by unfold Hid; rw [hx.out, HAT.out, if_pos h1]
          clear h1
          go_upto_region 7 with (go_at_call 46; refine (HC.out _).mono ?_; rintro e w1 ⟨rfl, nq, rfl⟩; have d1 : (w3.drewN nq).cell? ⟨g, off + k * 2, none⟩ = some (.string (strV p)) := c1; have HM2 := Lib.hid (HM.out nq))
          generalize w3.drewN nq = w4 at *
          go_wp2_with (go_at_call 46; refine (HC.out _).mono ?_; rintro e w1 ⟨rfl, nr, rfl⟩)
          go_ret
          exact ⟨retI HF.out.symm, m + nq + nr, by rw [HM2.out, World.drewN_drewN]⟩
      · have HE : Hid (rightR (R.drop k) = 0) := by unfold Hid; rw [List.drop_eq_nil_of_le (by omega)]; rfl
        go_wp2_with fail
        go_ret
        exact ⟨retI (by rw [hx.out, HE.out]), m, rfl⟩

def ruleN : List Rul → List UInt8 → Nat
  | [], _ => 0
  | r :: R, s => if Gl.matchG r.1 s then 0 else ruleN R s + 1
theorem ruleN_le : ∀ (R : List Rul) (s : List UInt8), ruleN R s ≤ R.length
  | [], _ => Nat.le_refl _
  | r :: R, s => by have := ruleN_le R s; unfold ruleN; split <;> simp; omega
theorem ruleN_at (R : List Rul) (s : List UInt8) (k : Nat) (h : k < R.length) : ruleN (R.drop k) s = if Gl.matchG R[k].1 s then 0 else ruleN (R.drop (k + 1)) s + 1 := by
  rw [List.drop_eq_getElem_cons h, ruleN]
def ruleI (R : List Rul) (s : List UInt8) : Int := if ruleN R s < R.length then ruleN R s else -1

set_option maxRecDepth 100000 in
set_option maxHeartbeats 2000000 in
theorem rule44_calls (R : List Rul) (s : List UInt8) (v : Value) (w : World) (hv : RulIn w v R) (hs : RulS R) (hn : R.length ≤ 1048576) (hl : s.length ≤ 1048576) :
    Calls Tryd.prog 44 #[v, .string (strV s)] w fun e w' => e = .returned (.int .i64 (ruleI R s)) ∧ Below w.heap.size w w' := by
  obtain ⟨a, ca, rfl, hca⟩ := hv.at_
  have HCA := Lib.hid hca
  have HS := Lib.hid hs
  have hn' : (R.length : Int) ≤ 1048576 := by omega
  clear hca hv hn hs
  have hm := fun p W (hp : p.length ≤ 1048576) => Gl.match9_calls (strV p) (strV s) W (by rw [strV_size]; omega) (by rw [strV_size]; omega)
  simp only [strV_data] at hm
  have HMt := Lib.hid hm
  clear hm
  go_enter Tryd.func44, Tryd.ntmps44
  go_wp2_with fail
  go_loopw [5] (fun i wr => ∃ k : Nat, i = .int .i64 k ∧ (k : Int) ≤ R.length ∧ Hid (ruleN R s = k + ruleN (R.drop k) s) ∧ Below w.heap.size w wr) (fun i _ => R.length - (intOf i).toNat)
  case atStart => exact ⟨0, rfl, by omega, by simp [Hid], Below.refl _ _⟩
  case round =>
    obtain ⟨k, rfl, hk, hx, hb⟩ := hrel
    have HB := Lib.hid hb
    by_cases hlt : (k : Int) < R.length
    · have hlt' : k < R.length := by omega
      obtain ⟨g, off, rfl, hgl, c1, c2⟩ := HCA.out wr hb k hlt'
      have hat := ruleN_at R s k hlt'
      have hsz := hb.size
      have hsm := HS.out R[k] (List.getElem_mem hlt')
      generalize R[k] = q at *
      obtain ⟨p, n⟩ := q
      obtain ⟨s1, s2, s3⟩ := hsm
      have hc := fun W => HMt.out p W s1
      simp only at hat c1 c2
      generalize Gl.matchG p s = b at *
      have HC := Lib.hid hc
      have HAT := Lib.hid hat
      clear hat hc hb
      cases b with
      | true =>
        have HF : Hid (ruleI R s = k) := by
          unfold Hid ruleI
          rw [hx.out, HAT.out, if_pos rfl, if_pos (by omega)]; rfl
        go_wp2_with (go_at_call 72; refine (HC.out _).mono ?_; rintro e w1 ⟨rfl, hb1⟩)
        go_ret
        exact ⟨retI HF.out.symm, HB.out.trans (hb1.mono hsz)⟩
      | false =>
        have HF : Hid (ruleN R s = (k + 1) + ruleN (R.drop (k + 1)) s) := by
          unfold Hid
          rw [hx.out, HAT.out, if_neg (by simp)]; omega
        go_wp2_with (go_at_call 72; refine (HC.out _).mono ?_; rintro e w1 ⟨rfl, hb1⟩)
        go_roundw
        case rel => exact ⟨k + 1, by go_num, by omega, HF.out, HB.out.trans (hb1.mono hsz)⟩
        case measure => simp [intOf]; omega
    · have HF : Hid (ruleI R s = -1) := by
        unfold Hid ruleI
        rw [hx.out, List.drop_eq_nil_of_le (by omega), if_neg (by simp [ruleN]; omega)]
      go_wp2_with fail
      go_ret
      exact ⟨retI HF.out.symm, HB.out⟩
end Go.Proofs.YtolaecdopfmbgaaDoor
