/- The reference's words: what stands between blanks. Condition: a line of at most 8388608 bytes. -/
import Derived.Test.YtjplfkcelkijfaaGreatDoorWs
import Derived.Test.YtjplfkcelkijfaaGreatDoorHxU
namespace Go.Proofs.YtjplfkcelkijfaaGreatDoor
open Go.RowKit

theorem infoStr : (Tryz.prog.info? 9).map (fun i => (i.zero, i.size, i.bytes)) = some (some (.string ByteArray.empty), 1, 16) := by kernel_rfl
def namC (l : List (List UInt8)) : List Value := l.map fun s => .string ⟨s.toArray⟩
theorem namC_snoc (l : List (List UInt8)) (s : List UInt8) : namC (l ++ [s]) = namC l ++ [.string ⟨s.toArray⟩] := by simp [namC]
theorem namC_length (l : List (List UInt8)) : (namC l).length = l.length := by simp [namC]
/-- the words still to come, behind the first bytes of one -/
def contC (w r : List UInt8) : List (List UInt8) := (w ++ (splitC 32 r).headD []) :: (splitC 32 r).tail
theorem contC_nil (w : List UInt8) : contC w [] = [w] := by simp [contC, splitC]
theorem contC_start (r : List UInt8) : contC [] r = splitC 32 r := by
  have := splitC_ne 32 r
  unfold contC
  cases h : splitC 32 r with
  | nil => exact absurd h this
  | cons a l => rfl
theorem contC_blank (w r : List UInt8) : contC w (32 :: r) = w :: contC [] r := by
  rw [contC_start]
  have e : splitC 32 (32 :: r) = [] :: splitC 32 r := by
    have : splitC 32 (32 :: r) = if (32 : UInt8) = 32 then [] :: splitC 32 r else (32 :: (splitC 32 r).headD []) :: (splitC 32 r).tail := rfl
    rw [this, if_pos rfl]
  unfold contC
  rw [e]; simp
theorem contC_byte {c : UInt8} (w r : List UInt8) (h : c ≠ 32) : contC w (c :: r) = contC (w ++ [c]) r := by
  have e : splitC 32 (c :: r) = (c :: (splitC 32 r).headD []) :: (splitC 32 r).tail := by
    have : splitC 32 (c :: r) = if c = 32 then [] :: splitC 32 r else (c :: (splitC 32 r).headD []) :: (splitC 32 r).tail := rfl
    rw [this, if_neg h]
  unfold contC
  rw [e]; simp
theorem strsIn_of_owns {w : World} {B : Nat} {v : Value} {l : List (List UInt8)} (h : w.ownsRow B 9 1 v l.length (namC l)) : StrsIn w v l := by
  obtain ⟨hn, a, cap, rfl, hC⟩ := cellsIn_of_owns h
  refine ⟨a, cap, rfl, fun k x hk => ?_⟩
  obtain ⟨g, o, ha, hc⟩ := hC k (.string ⟨x.toArray⟩) (by unfold namC; rw [List.getElem?_map, hk]; rfl)
  exact ⟨g, o, ha, hc⟩
/-- the loop: L done, u begun -/
structure WordsAt (s : List UInt8) (L : List (List UInt8)) (u : List UInt8) (k : Nat) : Prop where
  eq : splitC 32 s = L ++ contC u (s.drop k)
  len : L.length ≤ k
  ulen : u.length ≤ k
set_option maxHeartbeats 2000000 in
set_option maxRecDepth 100000 in
theorem refWords_calls (s : ByteArray) (w : World) (hs : s.size ≤ 8388608) :
    Calls Tryz.prog 21 #[.string s] w fun e w' => ∃ v, e = .returned v ∧ StrsIn w' v (splitC 32 s.data.toList) ∧ Below w.heap.size w w' := by
  obtain ⟨i0, hi, hz0, hz1, hz2⟩ := info_parts infoStr
  have hs' : (s.size : Int) ≤ 8388608 := by omega
  clear hs
  go_enter Tryz.func21, Tryz.ntmps21
  go_wp2_with fail
  go_loopw [3, 4, 5] (fun v u i wr => ∃ (L : List (List UInt8)) (x : List UInt8) (k : Nat), i = .int .i64 k ∧ u = .string ⟨x.toArray⟩ ∧ (k : Int) ≤ s.size ∧ Hid (WordsAt s.data.toList L x k) ∧ Hid (wr.ownsRow w.heap.size 9 1 v L.length (namC L)) ∧ Hid (Below w.heap.size w wr)) (fun _ _ i _ => s.size - (intOf i).toNat)
  case atStart => exact ⟨[], [], 0, rfl, rfl, by omega, ⟨by rw [List.drop_zero, List.nil_append, contC_start], Nat.le_refl _, Nat.le_refl _⟩, World.ownsRow_nil _ _ _ _, Below.refl _ _⟩
  case round =>
    obtain ⟨L, x, k, rfl, rfl, hk, hat, hown, hb⟩ := hrel
    have hsz := hb.out.size
    have hL := hat.out.len
    have hu := hat.out.ulen
    by_cases hlt : (k : Int) < s.size
    · have hk' : k < s.size := by omega
      have hg := getElem_list s k hk'
      have hd : s.data.toList.drop k = s[k] :: s.data.toList.drop (k + 1) := by
        obtain ⟨h1, h2⟩ := List.getElem?_eq_some_iff.1 hg
        rw [List.drop_eq_getElem_cons h1, h2]
      by_cases he : s[k] = 32
      · have hq : ((s[k].toNat : Int) == 32) = true := by rw [he]; rfl
        have HAT : Hid (WordsAt s.data.toList (L ++ [x]) [] (k + 1)) := by
          refine ⟨?_, by simp; omega, Nat.zero_le _⟩
          rw [hat.out.eq, hd, he, contC_blank, List.append_assoc]; rfl
        clear he hd hg hat
        go_wp2_with (at_builtin; refine wpList_append_own _ rfl _ _ 35 rfl w.heap.size 9 i0 (.string ByteArray.empty) 1 16 Tryz.underlying35 hi hz0 hz1 hz2 rfl (by decide) _ _ _ rfl (hown.out.alloc _) ⟨wr.heap.size, 0, none⟩ 1 1 [.string ⟨x.toArray⟩] rfl rfl (cell_one_new _ _ _) (by simp [Value.oneCell']) (by unfold maxLen; omega) (by omega) (by simp; omega) ?_; intro v' w1 hown' hgrow _; obtain ⟨g', cap', rfl⟩ := ownsRow_succ hown')
        go_roundw
        case rel =>
          refine ⟨L ++ [x], [], k + 1, by go_num, rfl, by omega, HAT, ?_, (hb.out.alloc hsz _).grown hgrow (by simp; omega) (fun r e => (hown.out.lt r e).1)⟩
          show World.ownsRow _ _ _ _ _ _ _
          rw [List.length_append, namC_snoc]
          exact hown'
        case measure => simp [intOf]; omega
      · have hq : ((s[k].toNat : Int) == 32) = false := by
          rw [beq_eq_false_iff_ne]
          intro e
          exact he (UInt8.toNat_inj.1 (by have : (32 : UInt8).toNat = 32 := rfl; omega))
        have HAT : Hid (WordsAt s.data.toList L (x ++ [s[k]]) (k + 1)) := by
          refine ⟨?_, by omega, by simp; omega⟩
          rw [hat.out.eq, hd, contC_byte _ _ he]
        have HEX : Hid ((⟨x.toArray⟩ : ByteArray) ++ s.extract k (k + 1) = ⟨(x ++ [s[k]]).toArray⟩) := by
          show _ = _
          have h1 : s.extract k (k + 1) = ⟨[s[k]].toArray⟩ := by
            have : (s.extract k (k + 1)).data.toList = [s[k]] := by
              rw [Lib.extract_data, hd, show k + 1 - k = 1 by omega]; rfl
            apply ByteArray.ext
            apply Array.ext'
            rw [this]
          rw [h1, lits]
        have hl1 : ¬ 9223372036854775807 < x.length + 1 := by omega
        clear he hd hg hat
        go_wp2_with fail
        go_roundw
        case rel => exact ⟨L, x ++ [s[k]], k + 1, by go_num, congrArg Value.string HEX.out, by omega, HAT, hown, hb⟩
        case measure => simp [intOf]; omega
    · have HF : Hid (splitC 32 s.data.toList = L ++ [x]) := by
        have hd : s.data.toList.drop k = [] := List.drop_eq_nil_of_le (by have : s.data.toList.length = s.size := by simp
                                                                          omega)
        have := hat.out.eq
        rw [hd, contC_nil] at this
        exact this
      clear hat
      go_wp2_with (at_builtin; refine wpList_append_own _ rfl _ _ 35 rfl w.heap.size 9 i0 (.string ByteArray.empty) 1 16 Tryz.underlying35 hi hz0 hz1 hz2 rfl (by decide) _ _ _ rfl (hown.out.alloc _) ⟨wr.heap.size, 0, none⟩ 1 1 [.string ⟨x.toArray⟩] rfl rfl (cell_one_new _ _ _) (by simp [Value.oneCell']) (by unfold maxLen; omega) (by omega) (by simp; omega) ?_; intro v' w1 hown' hgrow _; obtain ⟨g', cap', rfl⟩ := ownsRow_succ hown')
      go_ret
      refine ⟨_, rfl, ?_, (hb.out.alloc hsz _).grown hgrow (by simp; omega) (fun r e => (hown.out.lt r e).1)⟩
      rw [HF.out]
      refine strsIn_of_owns (B := w.heap.size) ?_
      rw [List.length_append, namC_snoc]
      exact hown'
end Go.Proofs.YtjplfkcelkijfaaGreatDoor
