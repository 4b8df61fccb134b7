/- The iterator of glob.parts hands out the parts of a pattern in their order, for every string of at most 140737488351232 bytes. -/
import Derived.Shelf.Abstract
import Derived.Shelf.RegionOpen
import Derived.OwnWalkIn
import Derived.TacticsInMore
import Derived.LoopNIn
import Derived.LoopIn
import Derived.Sort.CutIn
import Derived.Sort.LoopGhostIn
import Derived.Test.YtolaecdopfmbgaaDoorGlD
import Derived.Test.YtolaecdopfmbgaaDoorAc
import Derived.Test.YtolaecdopfmbgaaDoorGlF
namespace Go.Proofs.YtolaecdopfmbgaaDoor.Gl
open Go.RowKit Go.Shelf

/-- what glob.parts hands out: a part, and whether it is one -/
structure PY where
  m : Bool
  f : Nat → Bool
  ok : Bool
def PY.encs (x : PY) : Array Value := #[.agg (partCells x.m x.f), .bool x.ok]
/-- the first one, and how many bytes behind the first one it takes -/
def headG (c : UInt8) (r : List UInt8) : PY × Nat :=
  if c = 42 then (⟨true, noBytes, true⟩, 0) else
  if c = 63 then (⟨false, upTo 256, true⟩, 0) else
  if c = 91 then (if 0 ≤ endG r then (⟨false, (classG (r.take (endG r).toNat)).1, (classG (r.take (endG r).toNat)).2⟩, (endG r).toNat + 1) else (⟨false, upd noBytes 91 true, false⟩, 0))
  else (⟨false, upd noBytes c.toNat true, true⟩, 0)
def partsL : List UInt8 → List PY
  | [] => []
  | c :: r => (headG c r).1 :: partsL (r.drop (headG c r).2)
termination_by l => l.length
decreasing_by simp; omega

def strLen (b : Nat) (w : World) : Nat := match w.cell? ⟨b, 0, none⟩ with | some (.string s) => s.size | _ => 0

theorem partsL_cons (s : ByteArray) (h : 0 < s.size) : partsL s.data.toList = (headG s[0] (s.data.toList.drop 1)).1 :: partsL (s.data.toList.drop ((headG s[0] (s.data.toList.drop 1)).2 + 1)) := by
  have e := drop_cons s 0 h
  rw [List.drop_zero, Nat.zero_add] at e
  generalize hr : s.data.toList.drop 1 = r at *
  have hd : ∀ k, s.data.toList.drop (k + 1) = r.drop k := fun k => by rw [← hr, List.drop_drop, Nat.add_comm]
  rw [hd, e, partsL]
theorem below_setRow {B : Nat} {a w : World} (h : Below B a w) {g : Nat} (hg : B ≤ g) (cs : Array Value) : Below B a (w.setRow g cs) :=
  h.trans ⟨rfl, rfl, rfl, by simp, fun k hk => setRow_other w g k cs (by omega)⟩
theorem nat_beq {a : UInt8} {n : Int} (c : UInt8) (hc : n = c.toNat) : ((a.toNat : Int) == n) = decide (a = c) := by
  subst hc
  rw [Bool.eq_iff_iff, beq_iff_eq, decide_eq_true_eq, ← UInt8.toNat_inj]
  omega

set_option maxHeartbeats 2000000 in
theorem parts1_seq (n : Nat) (b : Nat) (p : ByteArray) (w : World) (hp : p.size ≤ 140737488351232) (hb : w.heap[b]? = some (.cells #[.string p] 9)) :
    SeqG n Tryd.prog 104 #[.pointer (some ⟨b, 0, none⟩)] PY.encs (· = b) (partsL p.data.toList) w := by
  intro l J Jx W hW hJ hJx hY h0
  have hb1 : W.heap[b]? = some (.cells #[.string p] 9) := (hW.block b (lt_of_block hb)).trans hb
  refine callsIn_of_wp Tryd.func104 rfl trivial ?_ rfl
  simp only [Tryd.ntmps104, List.size_toArray, List.length_cons, List.length_nil, Nat.reduceAdd, Nat.reduceSub, Array.replicate_succ, Array.replicate_zero, List.push_toArray, List.append_toArray, List.nil_append, List.cons_append]
  have HYid := Lib.hid hY
  clear hY
  gi_wp2_with fail
  gi_loopw [5] (fun _ wr => ∃ (pre : List PY) (s : ByteArray), wr.heap[b]? = some (.cells #[.string s] 9) ∧ Hid (partsL p.data.toList = pre ++ partsL s.data.toList) ∧ s.size ≤ 140737488351232 ∧ J pre wr) (fun _ wr => strLen b wr)
  case atStart => exact ⟨[], p, hb1, rfl, hp, h0⟩
  case round =>
    obtain ⟨pre, s, hs, hx, hsz, hj⟩ := hrel
    have c1 := cell_of_one hs
    have c2 := free_of_one hs
    have hmu : strLen b wr = s.size := by unfold strLen; rw [c1]
    have HMU := Lib.hid hmu
    clear hmu
    have hlen : s.data.toList.length = s.size := by simp
    have HLEN := Lib.hid hlen
    clear hlen
    by_cases hlt : 0 < s.size
    · have hne : s.toList.isEmpty = false := by
        rw [Lib.toList_data, List.isEmpty_eq_false_iff]; intro e; have := congrArg List.length e; rw [HLEN.out, List.length_nil] at this; omega
      have hcons := drop_cons s 0 hlt
      rw [List.drop_zero] at hcons
      have HC := Lib.hid hcons
      clear hcons
      gi_upto_region 2 with (first | (with_reducible refine wpListIn_alloc_part ?_) | (refine ⟨trivial, noDepth, ?_⟩; gi_at_call 105; refine (callsIn_wide.2 (one_calls _ _ (by omega) (by have := s[0].toNat_lt; omega))).mono ?_; rintro e w' ⟨rfl, hbw⟩) | ((with_reducible apply wpListIn_store_part w'.heap.size); rfl; rfl; exact heap_at _ _ _ rfl))
      have hbW : b < wr.heap.size := lt_of_block hs
      have hb1 : Below wr.heap.size wr ((w'.alloc (.cells (partCells false noBytes) 138)).setRow w'.heap.size (partCells false (upd noBytes s[0].toNat true))) :=
        below_setRow (hbw.alloc hbw.size _) hbw.size _
      have hs1 : ((w'.alloc (.cells (partCells false noBytes) 138)).setRow w'.heap.size (partCells false (upd noBytes s[0].toNat true))).heap[b]? = some (.cells #[.string s] 9) := (hb1.block b hbW).trans hs
      have hg1 : ((w'.alloc (.cells (partCells false noBytes) 138)).setRow w'.heap.size (partCells false (upd noBytes s[0].toNat true))).heap[w'.heap.size]? = some (.cells (partCells false (upd noBytes s[0].toNat true)) 138) := by
        rw [setRow_alloc_at _ _ _ _ _ rfl]; exact heap_at _ _ _ rfl
      have hgs := hbw.size
      generalize ((w'.alloc (.cells (partCells false noBytes) 138)).setRow w'.heap.size (partCells false (upd noBytes s[0].toNat true))) = w1 at *
      generalize hgg : w'.heap.size = g at *
      clear hbw c1 c2 hgg
      have c1 := cell_of_one hs1
      have hlt0 : (0 : Int) < s.size := by omega
      gi_cut [13] from 7 (fun c wc => c = .int .u8 s[0].toNat ∧ wc = w1)
      case first =>
        gi_wp2_with fail
        gi_meet
        case rel => exact ⟨rfl, rfl⟩
      case rest =>
        obtain ⟨rfl, rfl⟩ := hcut
        gi_step
        gi_cut [4, 5] from 6 (fun ok k wc => ∃ x : PY, ∃ m : Nat, Hid (partsL s.data.toList = x :: partsL (s.data.toList.drop (m + 1))) ∧ ok = .bool x.ok ∧ k = .int .i64 (m + 1 : Nat) ∧ m + 1 ≤ s.size ∧ Below wr.heap.size wr wc ∧ wc.heap[g]? = some (.cells (partCells x.m x.f) 138))
        case first =>
          have hP := partsL_cons s hlt
          have q42 := nat_beq (a := s[0]) (n := 42) 42 rfl
          have q63 := nat_beq (a := s[0]) (n := 63) 63 rfl
          have q91 := nat_beq (a := s[0]) (n := 91) 91 rfl
          by_cases e42 : s[0] = 42
          · rw [decide_eq_true e42] at q42
            have hh : headG s[0] (s.data.toList.drop 1) = (⟨true, noBytes, true⟩, 0) := by unfold headG; rw [if_pos e42]
            rw [hh] at hP
            have HP := Lib.hid hP
            clear hP hh q63 q91 e42 
            gi_wp2_with (first | (with_reducible refine wpListIn_build_many ?_) | ((with_reducible apply wpListIn_store_part g); rfl; rfl; exact hg1))
            gi_meet
            case rel => exact ⟨⟨true, noBytes, true⟩, 0, HP.out, rfl, rfl, by omega, below_setRow hb1 hgs _, setRow_heap _ _ _ _ _ _ hg1⟩
          · rw [decide_eq_false e42] at q42
            by_cases e63 : s[0] = 63
            · rw [decide_eq_true e63] at q63
              have hh : headG s[0] (s.data.toList.drop 1) = (⟨false, upTo 256, true⟩, 0) := by unfold headG; rw [if_neg e42, if_pos e63]
              rw [hh] at hP
              have HP := Lib.hid hP
              clear hP hh q91 e42 e63
              gi_wp2_with (first | (refine ⟨trivial, noDepth, ?_⟩; gi_at_call 106; refine (callsIn_wide.2 (any_calls _)).mono ?_; rintro e w2 ⟨rfl, hbw⟩; have hg2 := (hbw.block g (lt_of_block hg1)).trans hg1) | ((with_reducible apply wpListIn_store_part g); rfl; rfl; exact hg2))
              gi_meet
              case rel => exact ⟨⟨false, upTo 256, true⟩, 0, HP.out, rfl, rfl, by omega, below_setRow (hb1.trans (hbw.mono hb1.size)) hgs _, setRow_heap _ _ _ _ _ _ hg2⟩
            · rw [decide_eq_false e63] at q63
              by_cases e91 : s[0] = 91
              · rw [decide_eq_true e91] at q91
                obtain ⟨k1, k2⟩ := endG_lt (s.data.toList.drop 1)
                rw [List.length_drop, HLEN.out] at k1
                have hx1 : (s.extract 1 s.size).data.toList = s.data.toList.drop 1 := by rw [Lib.extract_data, List.take_of_length_le (by rw [List.length_drop, HLEN.out]; omega)]
                have hE : ∀ W, Calls Tryd.prog 107 #[.string (s.extract 1 s.size)] W fun e w' => e = .returned (.int .i64 (endG (s.data.toList.drop 1))) ∧ w' = W := fun W => by
                  have := end_calls (s.extract 1 s.size) W (by simp; omega)
                  rwa [hx1] at this
                have hh : headG s[0] (s.data.toList.drop 1) = (if 0 ≤ endG (s.data.toList.drop 1) then (⟨false, (classG ((s.data.toList.drop 1).take (endG (s.data.toList.drop 1)).toNat)).1, (classG ((s.data.toList.drop 1).take (endG (s.data.toList.drop 1)).toNat)).2⟩, (endG (s.data.toList.drop 1)).toNat + 1) else (⟨false, upd noBytes 91 true, false⟩, 0)) := by
                  unfold headG; rw [if_neg e42, if_neg e63, if_pos e91]
                rw [hh] at hP
                have e91' : s[0].toNat = 91 := by rw [e91]; rfl
                rw [e91'] at hg1
                generalize endG (s.data.toList.drop 1) = k at *
                have HE := Lib.hid hE
                clear hh e42 e63 e91 hE hx1 e91'
                by_cases hk0 : 0 ≤ k
                · rw [if_pos hk0] at hP
                  obtain ⟨m, rfl⟩ := Int.eq_ofNat_of_zero_le hk0
                  rw [Int.toNat_natCast] at hP
                  have hx2 : (s.extract 1 (1 + m)).data.toList = (s.data.toList.drop 1).take m := by rw [Lib.extract_data]; congr 1; omega
                  have hC : ∀ W, Calls Tryd.prog 108 #[.string (s.extract 1 (1 + m))] W fun e w' => e = .returned (.tuple #[.agg (partCells false (classG ((s.data.toList.drop 1).take m)).1), .bool (classG ((s.data.toList.drop 1).take m)).2]) ∧ Below W.heap.size W w' := fun W => by
                    have := class_calls (s.extract 1 (1 + m)) W (by simp; omega)
                    rwa [hx2] at this
                  generalize classG ((s.data.toList.drop 1).take m) = C at *
                  have HC2 := Lib.hid hC
                  have HP := Lib.hid hP
                  clear hC hP hx2
                  have mm : (m : Int) + 2 ≤ s.size := by omega
                  gi_wp2_with (first | (refine ⟨trivial, noDepth, ?_⟩; gi_at_call 107; refine (callsIn_wide.2 (HE.out _)).mono ?_; rintro e w2 ⟨rfl, rfl⟩) | (refine ⟨trivial, noDepth, ?_⟩; gi_at_call 108; refine (callsIn_wide.2 (HC2.out _)).mono ?_; rintro e w3 ⟨rfl, hbw⟩; have hg2 := (hbw.block g (lt_of_block hg1)).trans hg1) | ((with_reducible apply wpListIn_store_part g); rfl; rfl; exact hg2))
                  gi_meet
                  case rel => exact ⟨⟨false, C.1, C.2⟩, m + 1, HP.out, rfl, by go_num, by omega, below_setRow (hb1.trans (hbw.mono hb1.size)) hgs _, setRow_heap _ _ _ _ _ _ hg2⟩
                · rw [if_neg hk0] at hP
                  have HP := Lib.hid hP
                  clear hP
                  gi_wp2_with (refine ⟨trivial, noDepth, ?_⟩; gi_at_call 107; refine (callsIn_wide.2 (HE.out _)).mono ?_; rintro e w2 ⟨rfl, rfl⟩)
                  gi_meet
                  case rel => exact ⟨⟨false, upd noBytes 91 true, false⟩, 0, HP.out, rfl, rfl, by omega, hb1, hg1⟩
              · rw [decide_eq_false e91] at q91
                have hh : headG s[0] (s.data.toList.drop 1) = (⟨false, upd noBytes s[0].toNat true, true⟩, 0) := by unfold headG; rw [if_neg e42, if_neg e63, if_neg e91]
                rw [hh] at hP
                have HP := Lib.hid hP
                clear hP hh e42 e63 e91
                gi_wp2_with fail
                gi_meet
                case rel => exact ⟨⟨false, upd noBytes s[0].toNat true, true⟩, 0, HP.out, rfl, rfl, by omega, hb1, hg1⟩
        case rest =>
          obtain ⟨x, m, hpart, rfl, rfl, hm, hB, hgx⟩ := hcut
          have hpre : pre ++ [x] <+: partsL p.data.toList := by rw [hx.out, hpart.out]; exact ⟨_, by rw [List.append_assoc]; rfl⟩
          obtain ⟨fn, tmps, assign, body, hy, hR⟩ := HYid.out pre x wc (hJ _ _ _ hj (Moves.of_below hB)) hpre
          dsimp only [PY.encs] at hy
          have hHB := Lib.hid hpre
          have hbc : wc.heap[b]? = some (.cells #[.string s] 9) := (hB.block b hbW).trans hs
          clear hs1 hg1 hb1 c1 hpre hs
          have hm' : ((m + 1 : Nat) : Int) ≤ s.size := by omega
          gi_wp2_with (first | ((with_reducible apply wpListIn_load_part g); rfl; exact hgx))
          refine ⟨noDepth, ?_⟩
          refine hR.mono ?_
          rintro e W3 (⟨rfl, hJ3, hk3⟩ | ⟨rfl, hJx3⟩)
          · have hb3 : W3.heap[b]? = some (.cells #[.string s] 9) := (hk3.block b (lt_of_block hbc) rfl).trans hbc
            have c3 := cell_of_one hb3
            have f3 := free_of_one hb3
            clear hy hR
            gi_wp2
            go_roundw
            case rel =>
              refine ⟨pre ++ [x], s.extract (m + 1) s.size, one_setCell hb3, ?_, by simp; omega, hJ _ _ _ hJ3 (Moves.setCell _ _ _ rfl)⟩
              unfold Hid
              rw [hx.out, hpart.out, Lib.extract_data, List.take_of_length_le (by simp), List.append_assoc]
              rfl
            case measure =>
              have hs0 : strLen b (W3.setCell ⟨b, 0, none⟩ (.string (s.extract (m + 1) s.size))) = (s.extract (m + 1) s.size).size := by
                unfold strLen; rw [cell_of_one (one_setCell hb3)]
              show strLen b _ < strLen b wr
              rw [hs0, HMU.out]
              simp; omega
          · clear hy hR
            gi_wp2
            refine bodyPost_ret (results_none rfl _ _ _) rfl ?_
            exact ⟨⟨_, rfl⟩, .inr ⟨pre ++ [x], hHB.out, hJx3⟩⟩
    · have hne : s.toList.isEmpty = true := by
        rw [Lib.toList_data, List.isEmpty_iff]; apply List.eq_nil_of_length_eq_zero; rw [HLEN.out]; omega
      have hfin : partsL p.data.toList = pre := by rw [hx.out, ← Lib.toList_data, List.isEmpty_iff.1 hne, partsL, List.append_nil]
      have HF := Lib.hid hfin
      clear hfin
      gi_wp2_with fail
      go_end0
      exact ⟨⟨_, rfl⟩, .inl (by rw [HF.out]; exact hj)⟩
end Go.Proofs.YtolaecdopfmbgaaDoor.Gl
