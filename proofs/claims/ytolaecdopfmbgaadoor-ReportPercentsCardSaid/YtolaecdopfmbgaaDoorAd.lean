/- The iterator of manifest.lines hands out the lines of a text in their order, for every text of at most 140737488351232 bytes. -/
import Derived.Shelf.Abstract
import Derived.Shelf.RegionOpen
import Derived.OwnWalkIn
import Derived.TacticsInMore
import Derived.LoopNIn
import Derived.LoopIn
import Derived.Sort.CutIn
import Derived.Sort.LoopGhostIn
import Derived.Test.YtolaecdopfmbgaaDoorAc
import Derived.Test.YtolaecdopfmbgaaDoorAb
namespace Go.Proofs.YtolaecdopfmbgaaDoor
open Go.RowKit Go.Shelf

def lineV (x : List UInt8 × Bool) : Array Value := #[.string ⟨x.1.toArray⟩, .bool x.2]
def boxLen (b : Nat) (w : World) : Nat := match w.cell? ⟨b, 0, none⟩ with | some (.string s) => s.size | _ => 0
theorem cell_of_one' {w : World} {b : Nat} {v : Value} {t : TypeId} {fr : Nat × Nat} (h : w.heap[b]? = some (.cells #[v] t fr)) : w.cell? ⟨b, 0, none⟩ = some v := by rw [Lib.cell_of_heap h]; rfl
theorem lt_block {w : World} {b : Nat} {o : Obj} (h : w.heap[b]? = some o) : b < w.heap.size := (Array.getElem?_eq_some_iff.1 h).1
theorem cut_short (l : List UInt8) : (Lib.cut l [10]).2.1 = [] ∨ (Lib.cut l [10]).2.1.length < l.length := by
  rcases cut_ways 10 l with ⟨a, r, rfl, hno⟩ | hno
  · right; rw [cut_hit hno]; simp; omega
  · left; rw [cut_miss hno]

set_option maxHeartbeats 2000000 in
theorem lines1_seq (n : Nat) (b : Nat) (p : List UInt8) (w : World) (hp : p.length ≤ 140737488351232) (hb : w.heap[b]? = some (.cells #[.string ⟨p.toArray⟩] 9)) :
    SeqG n Tryd.prog 53 #[.pointer (some ⟨b, 0, none⟩)] lineV (· = b) (linesL p) w := by
  intro l J Jx W hW hJ hJx hY h0
  have hb1 : W.heap[b]? = some (.cells #[.string ⟨p.toArray⟩] 9) := (hW.block b (lt_block hb)).trans hb
  refine callsIn_of_wp Tryd.func53 rfl trivial ?_ rfl
  simp only [Tryd.ntmps53, List.size_toArray, List.length_cons, List.length_nil, Nat.reduceAdd, Nat.reduceSub, Array.replicate_succ, Array.replicate_zero, List.push_toArray, List.append_toArray, List.nil_append, List.cons_append]
  have HYid := Lib.hid hY
  clear hY
  gi_wp2_with fail
  gi_loopw [3] (fun v3 wr => ∃ (pre : List (List UInt8 × Bool)) (s : List UInt8) (more : Bool), v3 = .bool more ∧ wr.heap[b]? = some (.cells #[.string ⟨s.toArray⟩] 9) ∧ Hid (linesL p = pre ++ if more then linesL s else []) ∧ s.length ≤ 140737488351232 ∧ J pre wr) (fun v3 wr => match v3 with | .bool true => boxLen b wr + 1 | _ => 0)
  case atStart => exact ⟨[], p, true, rfl, hb1, rfl, hp, h0⟩
  case round =>
    obtain ⟨pre, s, more, rfl, hs, hx, hsz, hj⟩ := hrel
    have c1 := cell_of_one' hs
    have hmu : boxLen b wr = s.length := by unfold boxLen; rw [c1]; show s.toArray.size = _; simp
    have HMU := Lib.hid hmu
    clear hmu
    cases more with
    | true =>
      have hcut := fun w => cut_calls s 10 w hsz
      have HC := Lib.hid hcut
      have hle := cut_le s [10]
      have HLE := Lib.hid hle
      have hst : linesL p = (pre ++ [((Lib.cut s [10]).1, (Lib.cut s [10]).2.2)]) ++ linesR (Lib.cut s [10]).2.1 := by
        have := hx.out
        rw [if_pos rfl, linesL_step s] at this
        rw [this, List.append_assoc]; rfl
      have HST := Lib.hid hst
      have hsh := cut_short s
      have HSH := Lib.hid hsh
      have hszn : s.length ≤ 140737488351232 := hsz
      clear hcut hle hst hx hsh hsz
      generalize Lib.cut s [10] = C at *
      obtain ⟨c1l, c2l, c3⟩ := C
      simp only at HC HLE HST HSH
      have hpre : pre ++ [(c1l, c3)] <+: linesL p := by rw [HST.out]; exact ⟨_, rfl⟩
      have HPRE := Lib.hid hpre
      have hyy := fun nq => HYid.out pre (c1l, c3) (wr.drewN nq) (hJ _ _ _ hj (Moves.of_below (below_drewN (Below.refl _ _) nq))) hpre
      have HYY := Lib.hid hyy
      clear hpre hyy
      have HSZ := Lib.hid hszn
      clear hszn
      by_cases hc2 : c2l = []
      · subst hc2
        gi_upto_region 4 with (first | (refine ⟨trivial, noDepth, ?_⟩; gi_at_call 54; refine (callsIn_wide.2 (HC.out _)).mono ?_; rintro e w' ⟨rfl, nq, rfl⟩))
        obtain ⟨fn, tmps, assign, body, hy, hR⟩ := HYY.out nq
        dsimp only [lineV] at hy
        gi_wp2_with fail
        refine ⟨noDepth, ?_⟩
        refine hR.mono ?_
        rintro e W3 (⟨rfl, hJ3, hk3⟩ | ⟨rfl, hJx3⟩)
        · have hb3 : W3.heap[b]? = some (.cells #[.string ⟨s.toArray⟩] 9) := (hk3.block b (lt_block hs) rfl).trans hs
          have c3' := cell_of_one' hb3
          have f3 : W3.frozen? ⟨b, 0, none⟩ = false := Lib.frozen_of_heap hb3 0
          clear hy hR
          gi_wp2
          go_roundw
          case rel =>
            refine ⟨pre ++ [(c1l, c3)], [], false, rfl, one_setCell hb3, ?_, by simp, hJ _ _ _ hJ3 (Moves.setCell _ _ _ rfl)⟩
            unfold Hid
            rw [HST.out, if_neg (by simp)]
            rfl
          case measure =>
            show 0 < boxLen b wr + 1
            omega
        · clear hy hR
          gi_wp2
          refine bodyPost_ret (results_none rfl _ _ _) rfl ?_
          exact ⟨⟨_, rfl⟩, .inr ⟨pre ++ [(c1l, c3)], HPRE.out, hJx3⟩⟩
      · have hq : (c2l == []) = false := by rw [beq_eq_false_iff_ne]; exact hc2
        have hq2 : c2l.isEmpty = false := by rw [List.isEmpty_eq_false_iff]; exact hc2
        have HC2 := Lib.hid hc2
        clear hc2
        gi_upto_region 4 with (first | (refine ⟨trivial, noDepth, ?_⟩; gi_at_call 54; refine (callsIn_wide.2 (HC.out _)).mono ?_; rintro e w' ⟨rfl, nq, rfl⟩))
        obtain ⟨fn, tmps, assign, body, hy, hR⟩ := HYY.out nq
        dsimp only [lineV] at hy
        gi_wp2_with fail
        refine ⟨noDepth, ?_⟩
        refine hR.mono ?_
        rintro e W3 (⟨rfl, hJ3, hk3⟩ | ⟨rfl, hJx3⟩)
        · have hb3 : W3.heap[b]? = some (.cells #[.string ⟨s.toArray⟩] 9) := (hk3.block b (lt_block hs) rfl).trans hs
          have c3' := cell_of_one' hb3
          have f3 : W3.frozen? ⟨b, 0, none⟩ = false := Lib.frozen_of_heap hb3 0
          clear hy hR
          gi_wp2
          go_roundw
          case rel =>
            refine ⟨pre ++ [(c1l, c3)], c2l, true, rfl, one_setCell hb3, ?_, Nat.le_trans HLE.out.2 HSZ.out, hJ _ _ _ hJ3 (Moves.setCell _ _ _ rfl)⟩
            unfold Hid
            rw [HST.out, if_pos rfl]
            unfold linesR
            rw [if_neg HC2.out]
          case measure =>
            have hs0 : boxLen b (W3.setCell ⟨b, 0, none⟩ (.string ⟨c2l.toArray⟩)) = c2l.length := by
              unfold boxLen; rw [cell_of_one' (one_setCell hb3)]; show c2l.toArray.size = _; simp
            show boxLen b _ + 1 < boxLen b wr + 1
            rw [hs0, HMU.out]
            rcases HSH.out with h | h
            · exact absurd h HC2.out
            · omega
        · clear hy hR
          gi_wp2
          refine bodyPost_ret (results_none rfl _ _ _) rfl ?_
          exact ⟨⟨_, rfl⟩, .inr ⟨pre ++ [(c1l, c3)], HPRE.out, hJx3⟩⟩
    | false =>
      have HX := Lib.hid (show linesL p = pre by have := hx.out; rw [if_neg (by simp), List.append_nil] at this; exact this)
      clear hx
      gi_wp2_with fail
      go_end0
      exact ⟨⟨_, rfl⟩, .inl (by rw [HX.out]; exact hj)⟩
theorem lines_calls (p : ByteArray) (w : World) :
    Calls Tryd.prog 31 #[.string p] w fun e w' => e = .returned (.func (.func 53) #[] #[.pointer (some ⟨w.heap.size, 0, none⟩)]) ∧ w' = w.alloc (.cells #[.string p] 9) := by
  go_enter Tryd.func31, Tryd.ntmps31
  go_wp2
  go_ret
  exact ⟨rfl, rfl⟩
end Go.Proofs.YtolaecdopfmbgaaDoor
