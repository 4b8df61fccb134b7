/- The iterator of version.parts hands out the parts of a name in their order, for every name of at most 140737488351232 bytes. -/
import Derived.Shelf.Abstract
import Derived.Shelf.RegionOpen
import Derived.OwnWalkIn
import Derived.TacticsInMore
import Derived.LoopNIn
import Derived.LoopIn
import Derived.Sort.CutIn
import Derived.Sort.LoopGhostIn
import Derived.Sort.QuietIn
import Derived.Test.YtolaecdopfmbgaaDoorRc
import Derived.Test.YtolaecdopfmbgaaDoorRd
namespace Go.Proofs.YtolaecdopfmbgaaDoor
open Go.RowKit Go.Shelf

def lenAt (b : Nat) (w : World) : Nat := match w.cell? ⟨b, 0, none⟩ with | some (.string s) => s.size | _ => 0
theorem run_atL (l : List UInt8) (k : Nat) (h1 : 1 ≤ k) (h2 : k ≤ l.length) (h3 : ∀ i, i < k → figB (l.getD i 0) = figB (l.getD 0 0))
    (h4 : k = l.length ∨ figB (l.getD k 0) ≠ figB (l.getD 0 0)) : partsV l = l.take k :: partsV (l.drop k) := by
  cases l with
  | nil => simp at h2; omega
  | cons a r =>
    obtain ⟨k, rfl⟩ : ∃ m, k = m + 1 := ⟨k - 1, by omega⟩
    rw [List.length_cons] at h2 h4
    rw [List.take_succ_cons, List.drop_succ_cons]
    have e : a :: r = a :: r.take k ++ r.drop k := by simp
    conv => lhs; rw [e]
    refine partsV_run (r.take k) a (r.drop k) (fun c hc => ?_) (fun c r' hr => ?_)
    · obtain ⟨i, hi, rfl⟩ := List.mem_iff_getElem.1 hc
      rw [List.length_take] at hi
      have h := h3 (i + 1) (by omega)
      rw [List.getD_cons_succ, List.getD_cons_zero, List.getD_eq_getElem?_getD, List.getElem?_eq_getElem (by omega)] at h
      simpa using h
    · rcases h4 with h4 | h4
      · have : (r.drop k).length = 0 := by rw [List.length_drop]; omega
        rw [hr] at this; simp at this
      · have hk : k < r.length := by
          rcases Nat.lt_or_ge k r.length with h | h
          · exact h
          · rw [List.drop_eq_nil_of_le h] at hr; cases hr
        have e2 := List.drop_eq_getElem_cons hk
        rw [hr] at e2
        injection e2 with e3 _
        rw [List.getD_cons_succ, List.getD_cons_zero, List.getD_eq_getElem?_getD, List.getElem?_eq_getElem hk] at h4
        rw [e3]; simpa using h4
theorem getD_byte (s : ByteArray) (i : Nat) (h : i < s.size) : s.data.toList.getD i 0 = s[i] := by
  rw [List.getD_eq_getElem?_getD, List.getElem?_eq_getElem (by simpa using h)]; rfl

theorem wide_fn (f : FuncId) : Fence.wide.fn f = True := rfl
attribute [local go_sem] wide_fn

set_option maxHeartbeats 2000000 in
theorem parts1_seqD (n : Nat) (b : Nat) (p : ByteArray) (w : World) (hp : p.size ≤ 140737488351232) (hb : w.heap[b]? = some (.cells #[.string p] 9)) :
    SeqD n Tryd.prog 161 #[.pointer (some ⟨b, 0, none⟩)] (fun q => #[.string (strV q)]) (· = b) (partsV p.data.toList) w := by
  intro l J Jx W hW hJ hJx hY h0
  have hb1 : W.heap[b]? = some (.cells #[.string p] 9) := (hW.block b (lt_of_block hb)).trans hb
  refine callsIn_of_wp Tryd.func161 rfl trivial ?_ rfl
  simp only [Tryd.ntmps161, List.size_toArray, List.length_cons, List.length_nil, Nat.reduceAdd, Nat.reduceSub, Array.replicate_succ, Array.replicate_zero, List.push_toArray, List.append_toArray, List.nil_append, List.cons_append]
  have HYid := Lib.hid hY
  clear hY
  gi_wp2_with fail
  gi_loopw [3] (fun _ wr => ∃ (pre : List (List UInt8)) (s : ByteArray), wr.heap[b]? = some (.cells #[.string s] 9) ∧ Hid (partsV p.data.toList = pre ++ partsV s.data.toList) ∧ s.size ≤ 140737488351232 ∧ J pre wr) (fun _ wr => lenAt b wr)
  case atStart => exact ⟨[], p, hb1, rfl, hp, h0⟩
  case round =>
    obtain ⟨pre, s, hs, hx, hsz, hj⟩ := hrel
    have c1 := cell_of_one hs
    have c2 := free_of_one hs
    have hmu : lenAt b wr = s.size := by unfold lenAt; rw [c1]
    have HMU := Lib.hid hmu
    clear hmu
    have hlen : s.data.toList.length = s.size := by simp
    have HLEN := Lib.hid hlen
    clear hlen
    by_cases hlt : 0 < s.size
    · have hne : s.toList.isEmpty = false := by
        rw [Lib.toList_data, List.isEmpty_eq_false_iff]; intro e; have := congrArg List.length e; rw [HLEN.out, List.length_nil] at this; omega
      have hlt0 : (0 : Int) < s.size := by omega
      gi_wp2_with fail
      obtain ⟨wo, rfl⟩ : ∃ wo : World, wo = wr := ⟨_, rfl⟩
      clear hne
      gi_loopw [3] (fun i wi => ∃ k m : Nat, i = .int .i64 k ∧ 1 ≤ k ∧ (k : Int) ≤ s.size ∧ Hid (∀ j, j < k → figB (s.data.toList.getD j 0) = figB (s.data.toList.getD 0 0)) ∧ wi = wo.drewN m) (fun i _ => s.size - (intOf i).toNat)
      case atStart => exact ⟨1, 0, rfl, by omega, by omega, (fun j hj => by rw [show j = 0 by omega]), rfl⟩
      case round =>
        obtain ⟨k, m, rfl, hk1, hk2, hrun, rfl⟩ := hrel
        have c3 : (wo.drewN m).cell? ⟨b, 0, none⟩ = some (.string s) := c1
        have f3 : (wo.drewN m).frozen? ⟨b, 0, none⟩ = false := c2
        have HM : Hid (∀ q, (wo.drewN m).drewN q = wo.drewN (m + q)) := fun q => World.drewN_drewN _ _ _
        have hJ3 : J pre (wo.drewN m) := hJ _ _ _ hj (MovesD.drewN _ _ _)
        have hs3 : (wo.drewN m).heap[b]? = some (.cells #[.string s] 9) := hs
        generalize wo.drewN m = w3 at *
        by_cases hkl : (k : Int) < s.size
        · have hkl' : k < s.size := by omega
          have g0 := getD_byte s 0 hlt
          have gk := getD_byte s k hkl'
          by_cases heq : figB (s.data.toList.getD k 0) = figB (s.data.toList.getD 0 0)
          · have HRUN : Hid (∀ j, j < k + 1 → figB (s.data.toList.getD j 0) = figB (s.data.toList.getD 0 0)) := fun j hj => by
              rcases Nat.lt_or_ge j k with h | h
              · exact hrun.out j h
              · rw [show j = k by omega]; exact heq
            rw [g0, gk] at heq
            have hq : (figB s[k] == figB s[0]) = true := by rw [heq]; simp
            clear heq g0 gk hrun
            gi_wp2_with fail
            gi_quiet ((refine ⟨noDepth, ?_⟩; gi_at_call 127; refine CallsIn.quiet_of_same (callsIn_wide.2 (figure_calls _ _))))
            gi_wp2_with fail
            go_roundw
            case rel => exact ⟨k + 1, m + nq, by go_num, by omega, by omega, HRUN, HM.out nq⟩
            case measure => simp [intOf]; omega
          · have HP := Lib.hid (run_atL s.data.toList k hk1 (by rw [HLEN.out]; omega) hrun.out (.inr heq))
            rw [g0, gk] at heq
            have hq : (figB s[k] == figB s[0]) = false := by rw [beq_eq_false_iff_ne]; exact heq
            clear heq g0 gk hrun
            gi_wp2_with fail
            gi_quiet ((refine ⟨noDepth, ?_⟩; gi_at_call 127; refine CallsIn.quiet_of_same (callsIn_wide.2 (figure_calls _ _))))
            have hJ4 : J pre (w3.drewN nq) := hJ _ _ _ hJ3 (MovesD.drewN _ _ _)
            have hs4 : (w3.drewN nq).heap[b]? = some (.cells #[.string s] 9) := hs3
            clear hJ3 hs3 c3 f3 HM hs hj c1 c2
            generalize w3.drewN nq = wc at *
            have hex : (s.extract 0 k).data.toList = s.data.toList.take k := by rw [Lib.extract_data]; simp
            have hpre : pre ++ [(s.extract 0 k).data.toList] <+: partsV p.data.toList := by rw [hx.out, HP.out, hex]; exact ⟨_, by rw [List.append_assoc]; rfl⟩
            obtain ⟨fn, tmps, assign, body, hy, hR⟩ := HYid.out pre (s.extract 0 k).data.toList wc hJ4 hpre
            rw [strV_of] at hy
            have HPRE := Lib.hid hpre
            have HEX := Lib.hid hex
            have c5 := cell_of_one hs4
            have f5 := free_of_one hs4
            clear hpre hex
            gi_wp2_with fail
            refine ⟨noDepth, ?_⟩
            refine hR.mono ?_
            rintro e W3 (⟨rfl, hJ5, hk5⟩ | ⟨rfl, hJx5⟩)
            · have hb5 : W3.heap[b]? = some (.cells #[.string s] 9) := (hk5.block b (lt_of_block hs4) rfl).trans hs4
              clear c5 f5
              have c5 := cell_of_one hb5
              have f5 := free_of_one hb5
              clear hy hR
              gi_wp2
              go_roundw
              case rel =>
                refine ⟨pre ++ [(s.extract 0 k).data.toList], s.extract k s.size, one_setCell hb5, ?_, by simp; omega, hJ _ _ _ hJ5 (MovesD.setCell _ _ _ rfl)⟩
                unfold Hid
                have hdr : (s.extract k s.size).data.toList = s.data.toList.drop k := by rw [Lib.extract_data, List.take_of_length_le (by simp)]
                rw [hx.out, HP.out, HEX.out, hdr, List.append_assoc]
                rfl
              case measure =>
                have hs0 : lenAt b (W3.setCell ⟨b, 0, none⟩ (.string (s.extract k s.size))) = (s.extract k s.size).size := by
                  unfold lenAt; rw [cell_of_one (one_setCell hb5)]
                show lenAt b _ < lenAt b wo
                rw [hs0, HMU.out]
                simp; omega
            · clear hy hR
              gi_wp2
              refine bodyPost_ret (results_none rfl _ _ _) rfl ?_
              exact ⟨⟨_, rfl⟩, .inr ⟨pre ++ [(s.extract 0 k).data.toList], HPRE.out, hJx5⟩⟩
        · have HP := Lib.hid (run_atL s.data.toList k hk1 (by rw [HLEN.out]; omega) hrun.out (.inl (by rw [HLEN.out]; omega)))
          have hd : decide (k < s.size) = false := by simp; omega
          clear hrun
          gi_wp2_with fail
          gi_quiet (fail)
          have hJ4 : J pre (w3.drewN nq) := hJ _ _ _ hJ3 (MovesD.drewN _ _ _)
          have hs4 : (w3.drewN nq).heap[b]? = some (.cells #[.string s] 9) := hs3
          clear hJ3 hs3 c3 f3 HM hs hj c1 c2
          generalize w3.drewN nq = wc at *
          have hex : (s.extract 0 k).data.toList = s.data.toList.take k := by rw [Lib.extract_data]; simp
          have hpre : pre ++ [(s.extract 0 k).data.toList] <+: partsV p.data.toList := by rw [hx.out, HP.out, hex]; exact ⟨_, by rw [List.append_assoc]; rfl⟩
          obtain ⟨fn, tmps, assign, body, hy, hR⟩ := HYid.out pre (s.extract 0 k).data.toList wc hJ4 hpre
          rw [strV_of] at hy
          have HPRE := Lib.hid hpre
          have HEX := Lib.hid hex
          have c5 := cell_of_one hs4
          have f5 := free_of_one hs4
          clear hpre hex
          gi_wp2_with fail
          refine ⟨noDepth, ?_⟩
          refine hR.mono ?_
          rintro e W3 (⟨rfl, hJ5, hk5⟩ | ⟨rfl, hJx5⟩)
          · have hb5 : W3.heap[b]? = some (.cells #[.string s] 9) := (hk5.block b (lt_of_block hs4) rfl).trans hs4
            clear c5 f5
            have c5 := cell_of_one hb5
            have f5 := free_of_one hb5
            clear hy hR
            gi_wp2
            go_roundw
            case rel =>
              refine ⟨pre ++ [(s.extract 0 k).data.toList], s.extract k s.size, one_setCell hb5, ?_, by simp; omega, hJ _ _ _ hJ5 (MovesD.setCell _ _ _ rfl)⟩
              unfold Hid
              have hdr : (s.extract k s.size).data.toList = s.data.toList.drop k := by rw [Lib.extract_data, List.take_of_length_le (by simp)]
              rw [hx.out, HP.out, HEX.out, hdr, List.append_assoc]
              rfl
            case measure =>
              have hs0 : lenAt b (W3.setCell ⟨b, 0, none⟩ (.string (s.extract k s.size))) = (s.extract k s.size).size := by
                unfold lenAt; rw [cell_of_one (one_setCell hb5)]
              show lenAt b _ < lenAt b wo
              rw [hs0, HMU.out]
              simp; omega
          · clear hy hR
            gi_wp2
            refine bodyPost_ret (results_none rfl _ _ _) rfl ?_
            exact ⟨⟨_, rfl⟩, .inr ⟨pre ++ [(s.extract 0 k).data.toList], HPRE.out, hJx5⟩⟩
    · have hne : s.toList.isEmpty = true := by
        rw [Lib.toList_data, List.isEmpty_iff]; apply List.eq_nil_of_length_eq_zero; rw [HLEN.out]; omega
      have hfin : partsV p.data.toList = pre := by rw [hx.out, ← Lib.toList_data, List.isEmpty_iff.1 hne, partsV, List.append_nil]
      have HF := Lib.hid hfin
      clear hfin
      gi_wp2_with fail
      go_end0
      exact ⟨⟨_, rfl⟩, .inl (by rw [HF.out]; exact hj)⟩
end Go.Proofs.YtolaecdopfmbgaaDoor
