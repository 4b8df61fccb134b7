/- line.number: which number a word is. Condition: a word of at most 8388608 bytes; what lies in variables. -/
import Derived.Test.YtjplfkcelkijfaaGreatDoorWh
namespace Go.Proofs.YtjplfkcelkijfaaGreatDoor
open Go.RowKit

def digsL : List UInt8 := [48, 49, 50, 51, 52, 53, 54, 55, 56, 57]
theorem digs_has (c : UInt8) : digsL.contains c = isDig c := by
  have h : ∀ n : Fin 256, digsL.contains (UInt8.ofNat n.val) = isDig (UInt8.ofNat n.val) := by decide +kernel
  have e : UInt8.ofNat c.toNat = c := by simp
  have := h ⟨c.toNat, c.toNat_lt⟩
  rwa [e] at this
theorem dropW_nil {p : UInt8 → Bool} : ∀ l : List UInt8, l.dropWhile p = [] ↔ l.all p = true
  | [] => by simp
  | c :: l => by
    rw [List.dropWhile_cons, List.all_cons]
    by_cases h : p c = true
    · rw [if_pos h, dropW_nil l, h, Bool.true_and]
    · rw [if_neg h]; simp [h]
theorem trimS_nil (l cs : List UInt8) : Lib.trimS l cs = [] ↔ l.all (cs.contains ·) = true := by
  unfold Lib.trimS Lib.trimLeftS Lib.trimRightS
  rw [dropW_nil, List.all_reverse]
  constructor
  · intro h
    by_cases h0 : l.reverse.dropWhile (cs.contains ·) = []
    · rw [dropW_nil, List.all_reverse] at h0; exact h0
    · exfalso
      have h1 : cs.contains ((l.reverse.dropWhile (cs.contains ·)).head h0) = true := List.all_eq_true.1 h _ (List.head_mem h0)
      have h2 := List.head_dropWhile_not (cs.contains ·) h0
      rw [h1] at h2; cases h2
  · intro h
    have h0 : l.reverse.dropWhile (cs.contains ·) = [] := (dropW_nil _).2 (by rw [List.all_reverse]; exact h)
    rw [h0]; rfl
theorem trim_digs (l : List UInt8) : Lib.trimS l digsL = [] ↔ l.all isDig = true := by
  rw [trimS_nil]
  have : (fun c => digsL.contains c) = isDig := funext digs_has
  rw [this]
theorem trimP_figs (s : List UInt8) : Lib.trimPrefix s [45] = figsOf s := by
  unfold Lib.trimPrefix figsOf Lib.hasPrefix
  cases s with
  | nil => simp [List.isPrefixOf]
  | cons c r =>
    by_cases h : c = 45
    · subst h; simp [List.isPrefixOf]
    · have : (45 == c) = false := by rw [beq_eq_false_iff_ne]; exact fun e => h e.symm
      simp [List.isPrefixOf, this, h]
theorem ascii_digs : ∀ (j : Nat) (b : UInt8), (⟨digsL.toArray⟩ : ByteArray).data.toList[j]? = some b → b.toNat < 128 := fun j b h => by
  have hm : b ∈ digsL := by simpa using List.mem_of_getElem? h
  have := digs_has b
  rw [List.contains_iff_mem.2 hm] at this
  have := of_decide_eq_true this.symm
  omega

set_option maxHeartbeats 4000000 in
set_option maxRecDepth 100000 in
theorem number_calls (s : ByteArray) (w : World) (hs : s.size ≤ 8388608) (hE : Env w) :
    Calls Tryz.prog 45 #[.string s] w fun e w' => e = .returned (.tuple #[.int .i64 (numV s.data.toList).1, .int .i64 (numV s.data.toList).2]) ∧ Below w.heap.size w w' := by
  obtain ⟨_, _, t2, p2, hv2⟩ := hE
  have hTP := Tryz.strings_TrimPrefix s ⟨#[45]⟩ w
  have hTP2 : Lib.trimPrefix s.data.toList (⟨#[45]⟩ : ByteArray).data.toList = figsOf s.data.toList := trimP_figs _
  rw [hTP2] at hTP
  have hfl : (figsOf s.data.toList).length ≤ s.size := by
    unfold figsOf; split
    · simp
    · simp
  have hTR := fun W => Tryz.strings_Trim_laid ⟨(figsOf s.data.toList).toArray⟩ ⟨digsL.toArray⟩ W (by show (figsOf s.data.toList).toArray.size ≤ _; simp; omega) (by decide) ascii_digs
  have hTRe : (⟨(figsOf s.data.toList).toArray⟩ : ByteArray).data.toList = figsOf s.data.toList := by simp
  have hTRd : (⟨digsL.toArray⟩ : ByteArray).data.toList = digsL := by simp
  rw [hTRe, hTRd] at hTR
  have HTP := Lib.hid hTP
  have HTR := Lib.hid hTR
  have hFs : (⟨(figsOf s.data.toList).toArray⟩ : ByteArray).size = (figsOf s.data.toList).length := by show (figsOf s.data.toList).toArray.size = _; simp
  have hTs : (⟨(Lib.trimS (figsOf s.data.toList) digsL).toArray⟩ : ByteArray).size = (Lib.trimS (figsOf s.data.toList) digsL).length := by show (Lib.trimS (figsOf s.data.toList) digsL).toArray.size = _; simp
  have hFe := isEmpty_toList ⟨(figsOf s.data.toList).toArray⟩
  have hTe := isEmpty_toList ⟨(Lib.trimS (figsOf s.data.toList) digsL).toArray⟩
  rw [hFs] at hFe
  rw [hTs] at hTe
  have hF0 : ∀ h : 0 < (⟨(figsOf s.data.toList).toArray⟩ : ByteArray).size, (figsOf s.data.toList).head? = some ((⟨(figsOf s.data.toList).toArray⟩ : ByteArray)[0]'h) := fun h => by
    rw [List.head?_eq_getElem?, ← byteAt _ 0 h, hTRe]
  by_cases h0 : figsOf s.data.toList = []
  · have hN : numV s.data.toList = (0, 3) := by unfold numV numBad; rw [h0]; rfl
    have HN := Lib.hid hN
    rw [decide_eq_true (by rw [h0]; rfl)] at hFe
    clear hTP hTR hN hTP2 hfl hTRe hTRd hF0 hTe hTs hFs h0 HTR
    generalize (⟨(figsOf s.data.toList).toArray⟩ : ByteArray) = F at *
    go_enter Tryz.func45, Tryz.ntmps45
    go_wp2_with (go_at_call 64; refine HTP.out.mono ?_; rintro e w1 ⟨rfl, rfl⟩)
    go_ret2
    exact ⟨by rw [HN.out]; rfl, Below.refl _ _⟩
  · have hF1 : ¬ (figsOf s.data.toList).length = 0 := fun e => h0 (List.eq_nil_of_length_eq_zero e)
    rw [decide_eq_false hF1] at hFe
    have HTD : Hid ((⟨digsL.toArray⟩ : ByteArray) = ⟨#[48, 49, 50, 51, 52, 53, 54, 55, 56, 57]⟩) := rfl
    rw [HTD.out] at HTR
    by_cases h1 : (figsOf s.data.toList).all isDig = true
    · rw [decide_eq_true (by rw [(trim_digs _).2 h1]; rfl)] at hTe
      have hpos : 0 < (⟨(figsOf s.data.toList).toArray⟩ : ByteArray).size := by rw [hFs]; omega
      have hF0' := hF0 hpos
      by_cases h2 : (figsOf s.data.toList).head? = some 48 ∧ s.data.toList ≠ [48]
      · have hN : numV s.data.toList = (0, 3) := by
          have : numBad s.data.toList = true := by unfold numBad; rw [decide_eq_true h2.1, decide_eq_true h2.2]; simp
          unfold numV; rw [if_pos this]
        have HN := Lib.hid hN
        have h48 : (((⟨(figsOf s.data.toList).toArray⟩ : ByteArray)[0]'hpos).toNat : Int) = 48 := by
          rw [hF0'] at h2
          have := h2.1
          injection this with this
          rw [this]; rfl
        have hs48 : (s.toList == [48]) = false := by rw [ByteArray.toList_eq, beq_eq_false_iff_ne]; exact h2.2
        clear hTP hTR hN hTP2 hfl hTRe hTRd hF0 hTs hFs h0 hF1 h1 h2 hF0' HTD
        generalize (⟨(figsOf s.data.toList).toArray⟩ : ByteArray) = F at *
        generalize (⟨(Lib.trimS (figsOf s.data.toList) digsL).toArray⟩ : ByteArray) = T at *
        have hpos' : (0 : Int) < F.size := by omega
        go_enter Tryz.func45, Tryz.ntmps45
        go_wp2_with (first | (go_at_call 64; refine HTP.out.mono ?_; rintro e w1 ⟨rfl, rfl⟩) | (go_at_call 65; refine (HTR.out _).mono ?_; rintro e w2 ⟨rfl, hb2⟩))
        go_ret2
        exact ⟨by rw [HN.out]; rfl, hb2⟩
      · have hb0 : numBad s.data.toList = false := by
          unfold numBad
          rw [h1]
          have e1 : (figsOf s.data.toList).isEmpty = false := by rw [List.isEmpty_eq_false_iff]; exact h0
          rw [e1]
          by_cases h3 : (figsOf s.data.toList).head? = some 48
          · have h4 : s.data.toList = [48] := Classical.byContradiction fun h4 => h2 ⟨h3, h4⟩
            rw [decide_eq_false (p := s.data.toList ≠ [48]) (fun h => h h4)]; simp
          · rw [decide_eq_false h3]; rfl
        have hA := atoi_num hb0
        have hbd : (numV s.data.toList).2 = 0 → -9223372036854775808 ≤ (numV s.data.toList).1 ∧ (numV s.data.toList).1 ≤ 9223372036854775807 := fun h => (itoa_num h).2
        have HQ : Hid (((((⟨(figsOf s.data.toList).toArray⟩ : ByteArray)[0]'hpos).toNat : Int) == 48) = false ∨ (((((⟨(figsOf s.data.toList).toArray⟩ : ByteArray)[0]'hpos).toNat : Int) == 48) = true ∧ (s.toList == [48]) = true)) := by
          by_cases h3 : (figsOf s.data.toList).head? = some 48
          · right
            have h4 : s.data.toList = [48] := Classical.byContradiction fun h4 => h2 ⟨h3, h4⟩
            have h5 : (⟨(figsOf s.data.toList).toArray⟩ : ByteArray)[0]'hpos = 48 := by rw [hF0'] at h3; injection h3
            rw [h5, ByteArray.toList_eq, h4]
            exact ⟨rfl, rfl⟩
          · left
            rw [beq_eq_false_iff_ne]
            intro h5
            apply h3
            rw [hF0']
            congr 1
            exact UInt8.toNat_inj.1 (by have h48 : (48 : UInt8).toNat = 48 := by decide
                                        omega)
        have hsl : s.size ≤ 281474976710656 := by omega
        have hsl2 : s.size ≤ 9223372036854775806 := by omega
        have HSZ := Lib.hid hs
        by_cases h6 : (numV s.data.toList).2 = 0
        · rw [if_pos h6] at hA
          have HAT := Lib.hid (fun W => Tryz.strconv_Atoi_ok s hsl2 _ hA W)
          have HEQ : Hid (numV s.data.toList = ((numV s.data.toList).1, 0)) := Prod.ext rfl h6
          clear hTP hTR hTP2 hfl hTRe hTRd hF0 hTs hFs h0 hF1 h1 h2 hF0' HTD hb0 hA hbd hsl hsl2 h6 hs
          generalize (⟨(figsOf s.data.toList).toArray⟩ : ByteArray) = F at *
          generalize (⟨(Lib.trimS (figsOf s.data.toList) digsL).toArray⟩ : ByteArray) = T at *
          have hpos' : (0 : Int) < F.size := by omega
          rcases HQ.out with q | ⟨q, q'⟩
          all_goals
            clear HQ
            go_enter Tryz.func45, Tryz.ntmps45
            go_wp2_with (first | (go_at_call 64; refine HTP.out.mono ?_; rintro e w1 ⟨rfl, rfl⟩) | (go_at_call 65; refine (HTR.out _).mono ?_; rintro e w2 ⟨rfl, hb2⟩) | (go_at_call 66; refine (HAT.out _).mono ?_; rintro e w3 ⟨rfl, hw3⟩; have hb3 := below_atoi hw3; clear hw3))
            go_ret2
            exact ⟨by rw [HEQ.out]; rfl, hb2.trans (hb3.mono hb2.size)⟩
        · rw [if_neg h6] at hA
          have HAT := Lib.hid (fun W h => Tryz.strconv_Atoi_range_var s hsl hA t2 p2 W h)
          have HV2 := Lib.hid hv2
          have HEQ : Hid (numV s.data.toList = (0, 20)) := by
            have hz := numV_zero h6
            rcases numV_errs s.data.toList with h | h | h
            · exact absurd h h6
            · exfalso
              unfold numV at h
              rw [if_neg (by rw [hb0]; simp)] at h
              revert h
              repeat' split
              all_goals simp
            · exact Prod.ext hz h
          clear hTP hTR hTP2 hfl hTRe hTRd hF0 hTs hFs h0 hF1 h1 h2 hF0' HTD hb0 hA hbd hsl hsl2 h6 hs hv2
          generalize (⟨(figsOf s.data.toList).toArray⟩ : ByteArray) = F at *
          generalize (⟨(Lib.trimS (figsOf s.data.toList) digsL).toArray⟩ : ByteArray) = T at *
          have hpos' : (0 : Int) < F.size := by omega
          rcases HQ.out with q | ⟨q, q'⟩
          all_goals
            clear HQ
            go_enter Tryz.func45, Tryz.ntmps45
            go_wp2_with (first | (go_at_call 64; refine HTP.out.mono ?_; rintro e w1 ⟨rfl, rfl⟩) | (go_at_call 65; refine (HTR.out _).mono ?_; rintro e w2 ⟨rfl, hb2⟩) | (go_at_call 66; refine (HAT.out _ (var_below named2 HV2.out hb2)).mono ?_; rintro e w3 ⟨N, rfl, _, _, hb3⟩))
            go_ret2
            exact ⟨by rw [HEQ.out]; rfl, hb2.trans (hb3.mono hb2.size)⟩
    · have hN : numV s.data.toList = (0, 3) := by
        have : numBad s.data.toList = true := by unfold numBad; simp [h1]
        unfold numV; rw [if_pos this]
      have HN := Lib.hid hN
      have hT1 : ¬ (Lib.trimS (figsOf s.data.toList) digsL).length = 0 := fun e => h1 ((trim_digs _).1 (List.eq_nil_of_length_eq_zero e))
      rw [decide_eq_false hT1] at hTe
      clear hTP hTR hN hTP2 hfl hTRe hTRd hF0 hTs hFs h0 hF1 h1 hT1 HTD
      generalize (⟨(figsOf s.data.toList).toArray⟩ : ByteArray) = F at *
      generalize (⟨(Lib.trimS (figsOf s.data.toList) digsL).toArray⟩ : ByteArray) = T at *
      go_enter Tryz.func45, Tryz.ntmps45
      go_wp2_with (first | (go_at_call 64; refine HTP.out.mono ?_; rintro e w1 ⟨rfl, rfl⟩) | (go_at_call 65; refine (HTR.out _).mono ?_; rintro e w2 ⟨rfl, hb2⟩))
      go_ret2
      exact ⟨by rw [HN.out]; rfl, hb2⟩
end Go.Proofs.YtjplfkcelkijfaaGreatDoor
