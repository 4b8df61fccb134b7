/- The reference's Match tells what glob.Match tells, for strings of at most 140737488351232 bytes. -/
import Derived.Test.YtolaecdopfmbgaaDoorGlU
namespace Go.Proofs.YtolaecdopfmbgaaDoor.Gl
open Go.RowKit

theorem mark_at (p : ByteArray) (a : Option Addr) (n cap : Nat) (B : List Bool) (k : Int) (w : World) (hp : p.size ≤ 64) (hn : B.length = n) (hB : BoolsIn w a B) (hl : n ≤ 65) :
    Calls Tryd.prog 103 #[.string p, .slice a n cap, .int .i64 k] w fun e w' => ∃ a' cap', e = .returned (.slice a' (p.size + 1) cap') ∧ BoolsIn w' a' (markL (p.size + 1) B k) ∧ Below w.heap.size w w' := by
  subst hn
  refine (mark_calls p a cap B k w hp hB hl).mono ?_
  rintro e w' ⟨v, rfl, hrow, hb⟩
  obtain ⟨_, a', cap', rfl, hB'⟩ := boolsIn_of_owns hrow
  exact ⟨a', cap', rfl, hB', hb⟩
theorem reach_at (p : ByteArray) (a : Option Addr) (cap : Nat) (B : List Bool) (w : World) (hp : p.size ≤ 64) (hn : B.length = p.size + 1) (hB : BoolsIn w a B) :
    Calls Tryd.prog 102 #[.string p, .slice a (p.size + 1) cap] w fun e w' => ∃ a' cap', e = .returned (.slice a' (p.size + 1) cap') ∧ BoolsIn w' a' (reachTo p.data.toList p.size B) ∧ Below w.heap.size w w' := by
  have h := reach_calls p a cap B w hp hB hn
  rw [hn] at h
  refine h.mono ?_
  rintro e w' ⟨v, rfl, hrow, hb⟩
  obtain ⟨_, a', cap', rfl, hB'⟩ := boolsIn_of_owns hrow
  exact ⟨a', cap', rfl, hB', hb⟩

theorem next_zero (p : ByteArray) (c : UInt8) (B : List Bool) : Next p c B 0 [] := fun k' => ⟨fun h => by simp [on] at h, fun ⟨k, h, _⟩ => by omega⟩
theorem next_none {p : ByteArray} {c : UInt8} {B N : List Bool} {k : Nat} (h : Next p c B k N) (hn : on B k → Nx p c k = none) : Next p c B (k + 1) N := fun k' => by
  rw [h k']
  constructor
  · rintro ⟨j, h1, h2, h3⟩; exact ⟨j, by omega, h2, h3⟩
  · rintro ⟨j, h1, h2, h3⟩
    by_cases e : j = k
    · subst e; rw [hn h2] at h3; cases h3
    · exact ⟨j, by omega, h2, h3⟩
theorem next_some {p : ByteArray} {s : List UInt8} {i : Nat} {c : UInt8} {B N : List Bool} {k q : Nat} (hc : Cov p s i B) (h : Next p c B k N) (hk : on B k) (hn : Nx p c k = some q) : Next p c B (k + 1) (markL (p.size + 1) N (q : Int)) := fun k' => by
  rw [on_mark]
  constructor
  · rintro ⟨_, h1 | h1⟩
    · exact ⟨k, by omega, hk, by rw [hn]; congr 1; omega⟩
    · obtain ⟨j, h1, h2, h3⟩ := (h k').1 h1
      exact ⟨j, by omega, h2, h3⟩
  · rintro ⟨j, h1, h2, h3⟩
    have := (nx_good (hc.good j h2) h3).1
    refine ⟨by omega, ?_⟩
    by_cases e : j = k
    · subst e; rw [hn] at h3; cases h3; exact .inl rfl
    · exact .inr ((h k').2 ⟨j, by omega, h2, h3⟩)
theorem nx_any {p : ByteArray} {k : Nat} (hk : k < p.size) (hs : p[k] = 63) (c : UInt8) : Nx p c k = some (k + 1) := by
  rw [nx_else hk (by rw [hs]; decide), hs]
  have : headG 63 (p.data.toList.drop (k + 1)) = (⟨false, upTo 256, true⟩, 0) := by unfold headG; rw [if_neg (by decide), if_pos rfl]
  rw [this]
  have := c.toNat_lt
  simp [upTo]; omega
theorem nx_class {p : ByteArray} {k m : Nat} (hk : k < p.size) (hs : p[k] = 91) (hm : endG (p.data.toList.drop (k + 1)) = m) (c : UInt8) : Nx p c k = if (classG ((p.data.toList.drop (k + 1)).take m)).1 c.toNat then some (k + 1 + m + 1) else none := by
  rw [nx_else hk (by rw [hs]; decide), hs, headG_class _ m hm]
  rfl
theorem nx_byte {p : ByteArray} {k : Nat} (hk : k < p.size) (h1 : p[k] ≠ 42) (h2 : p[k] ≠ 63) (h3 : p[k] ≠ 91) (c : UInt8) : Nx p c k = if p[k] = c then some (k + 1) else none := by
  rw [nx_else hk h1]
  have : headG p[k] (p.data.toList.drop (k + 1)) = (⟨false, upd noBytes p[k].toNat true, true⟩, 0) := by unfold headG; rw [if_neg h1, if_neg h2, if_neg h3]
  rw [this]
  show (if upd noBytes p[k].toNat true c.toNat = true then _ else _) = _
  have e : upd noBytes p[k].toNat true c.toNat = decide (p[k] = c) := by
    unfold upd noBytes
    by_cases e : p[k] = c
    · rw [decide_eq_true e, ← e]; simp
    · rw [decide_eq_false e, if_neg (fun h => e (UInt8.toNat_inj.1 h.symm))]
  rw [e]
  by_cases e2 : p[k] = c
  · rw [if_pos e2, decide_eq_true e2]; rfl
  · rw [if_neg e2, decide_eq_false e2]; rfl

set_option maxRecDepth 100000 in
set_option maxHeartbeats 2000000 in
set_option maxRecDepth 100000 in
theorem match9_calls (p s : ByteArray) (w : World) (hp : p.size ≤ 140737488351232) (hs : s.size ≤ 140737488351232) :
    Calls Tryd.prog 72 #[.string p, .string s] w fun e w' => e = .returned (.bool (matchG p.data.toList s.data.toList)) ∧ Below w.heap.size w w' := by
  have hlen : p.data.toList.length = p.size := by simp
  by_cases hr : rightG p.data.toList = 0
  · have hM : matchG p.data.toList s.data.toList = M (partsL p.data.toList) s.data.toList := by unfold matchG; rw [if_pos hr]
    have h64 : p.size ≤ 64 := by
      unfold rightG at hr; rw [hlen] at hr
      by_cases h : 64 < p.size
      · rw [if_pos h] at hr; omega
      · omega
    have hgood : Good p 0 := by
      refine ⟨Nat.zero_le _, ?_⟩
      unfold rightG at hr
      rw [if_neg (by omega)] at hr
      rw [List.drop_zero]
      by_cases h : (partsL p.data.toList).all (·.ok) = true
      · exact h
      · rw [if_neg h] at hr; omega
    have HM := Lib.hid hM
    have H64 := Lib.hid h64
    have HGOOD := Lib.hid hgood
    have hp64 : (p.size : Int) ≤ 64 := by omega
    have hcall : ∀ W, Calls Tryd.prog 46 #[.string p] W fun e w' => e = .returned (.int .i64 0) ∧ ∃ n, w' = W.drewN n := fun W => by
      have := right7_calls p W hp; rwa [hr] at this
    have hm0 : ∀ W, Calls Tryd.prog 103 #[.string p, .slice none 0 0, .int .i64 0] W fun e w' => ∃ a' cap', e = .returned (.slice a' (p.size + 1) cap') ∧ BoolsIn w' a' (markL (p.size + 1) [] 0) ∧ Below W.heap.size W w' :=
      fun W => mark_at p none 0 0 [] 0 W h64 rfl (fun k b h => by simp at h) (by omega)
    have HC := Lib.hid hcall
    have HM0 := Lib.hid hm0
    clear hM hlen hr hcall h64 hgood hm0
    go_enter Tryd.func72, Tryd.ntmps72
    go_wp2_with (first | (go_at_call 46; refine (HC.out _).mono ?_; rintro e w' ⟨rfl, n0, rfl⟩) | (go_at_call 103; refine (HM0.out _).mono ?_; rintro e w1 ⟨a1, cap1, rfl, hB1, hb1⟩) | (go_at_call 102; refine (reach_at p _ _ _ _ H64.out (markL_length _ _ _) hB1).mono ?_; rintro e w2 ⟨a2, cap2, rfl, hB2, hb2⟩))
    have hcov0 := reach_cov (markL_length _ _ _) (cov_start (s := s.data.toList) HGOOD.out) p.size (Nat.le_refl _)
    have hlen0 : (reachTo p.data.toList p.size (markL (p.size + 1) [] 0)).length = p.size + 1 := by rw [reachTo_length, markL_length]
    have hbw : Below w.heap.size w w2 := (below_drewN (Below.refl _ w) n0).trans (hb1.trans (hb2.mono hb1.size))
    generalize reachTo p.data.toList p.size (markL (p.size + 1) [] 0) = B0 at *
    clear hB1 hb1 hb2
    go_loopw [5, 6] (fun v5 v6 wr => ∃ (j : Nat) (a : Option Addr) (cap : Nat) (B : List Bool), j ≤ s.size ∧ v6 = .int .i64 j ∧ v5 = .slice a (p.size + 1) cap ∧ B.length = p.size + 1 ∧ BoolsIn wr a B ∧ Cov p s.data.toList j B ∧ Shut p p.size B ∧ Below w.heap.size w wr) (fun _ v6 _ => s.size - (intOf v6).toNat)
    case atStart => exact ⟨0, a2, cap2, B0, by omega, rfl, rfl, hlen0, hB2, hcov0.1, hcov0.2, hbw⟩
    case round =>
      obtain ⟨j, a, cap, B, hj, rfl, rfl, hBl, hB, hcov, hshut, hb⟩ := hrel
      have HBL := Lib.hid hBl
      have HCOV := Lib.hid hcov
      have HSH := Lib.hid hshut
      have HB := Lib.hid hB
      clear hBl hcov hshut hB2 hcov0 hlen0 hbw hB
      by_cases h1 : j < s.size
      · have hsj : s.data.toList[j]? = some s[j] := by rw [List.getElem?_eq_getElem (by simpa using h1)]; rfl
        have HSJ := Lib.hid hsj
        clear hsj
        go_wp2_with fail
        obtain ⟨wo, rfl⟩ : ∃ wo : World, wo = wr := ⟨_, rfl⟩
        go_loopw [7, 8] (fun v7 v8 wr => ∃ (k : Nat) (N : List Bool) (n' : Nat) (a' : Option Addr) (cap' : Nat), k ≤ p.size ∧ v8 = .int .i64 k ∧ v7 = .slice a' n' cap' ∧ N.length = n' ∧ n' ≤ 65 ∧ BoolsIn wr a' N ∧ Next p s[j] B k N ∧ Below wo.heap.size wo wr) (fun _ v8 _ => p.size - (intOf v8).toNat)
        case atStart => exact ⟨0, [], 0, none, 0, by omega, rfl, rfl, rfl, by omega, fun k b h => by simp at h, next_zero _ _ _, Below.refl _ _⟩
        case round =>
          obtain ⟨k, N, n', a', cap', hk, rfl, rfl, hNl, hn', hN, hnext, hbo⟩ := hrel
          have HN := Lib.hid hN
          have HNL := Lib.hid hNl
          have HNX := Lib.hid hnext
          have HN6 := Lib.hid hn'
          clear hN hNl hnext hn'
          by_cases h2 : k < p.size
          · obtain ⟨g, rfl, c1⟩ := (HB.out.below hbo) k (B.getD k false) (by rw [List.getD_eq_getElem?_getD, List.getElem?_eq_getElem (by rw [HBL.out]; omega)]; rfl)
            cases hbk : B.getD k false
            · rw [hbk] at c1
              have hx := next_none HNX.out (fun h : on B k => by unfold on at h; rw [hbk] at h; cases h)
              have HX := Lib.hid hx
              clear hx hbk
              go_wp2_with fail
              go_roundw
              case rel => exact ⟨k + 1, N, n', a', cap', by omega, by go_num, rfl, HNL.out, HN6.out, HN.out, HX.out, hbo⟩
              case measure => simp [intOf]; omega
            · rw [hbk] at c1
              have hmark : ∀ (q : Nat) (W : World), Below wo.heap.size wo W → BoolsIn W a' N → Nx p s[j] k = some q → Calls Tryd.prog 103 #[.string p, .slice a' n' cap', .int .i64 q] W fun e w' => ∃ a'' cap'', e = .returned (.slice a'' (p.size + 1) cap'') ∧ BoolsIn w' a'' (markL (p.size + 1) N q) ∧ Below wo.heap.size wo w' ∧ Next p s[j] B (k + 1) (markL (p.size + 1) N q) := fun q W hW hNW hq => by
                refine (mark_at p a' n' cap' N q W H64.out HNL.out hNW HN6.out).mono ?_
                rintro e w' ⟨a'', cap'', rfl, h3, h4⟩
                exact ⟨a'', cap'', rfl, h3, hW.trans (h4.mono hW.size), next_some HCOV.out HNX.out hbk hq⟩
              have HMARK := Lib.hid hmark
              have hgk := HCOV.out.good k hbk
              have HBK := Lib.hid hbk
              have HGK := Lib.hid hgk
              clear hmark hbk hgk
              have q42 := nat_beq (a := p[k]) (n := 42) 42 rfl
              have q63 := nat_beq (a := p[k]) (n := 63) 63 rfl
              have q91 := nat_beq (a := p[k]) (n := 91) 91 rfl
              by_cases e42 : p[k] = 42
              · rw [decide_eq_true e42] at q42
                have HQ := Lib.hid (nx_star h2 e42 s[j])
                clear e42 q63 q91
                go_wp2_with (go_at_call 103; refine (HMARK.out k _ hbo HN.out HQ.out).mono ?_; rintro e w3 ⟨a3, cap3, rfl, hB3, hb3, hx3⟩)
                go_roundw
                case rel => exact ⟨k + 1, _, _, a3, cap3, by omega, by go_num, rfl, markL_length _ _ _, by omega, hB3, hx3, hb3⟩
                case measure => simp [intOf]; omega
              · rw [decide_eq_false e42] at q42
                by_cases e63 : p[k] = 63
                · rw [decide_eq_true e63] at q63
                  have HQ := Lib.hid (nx_any h2 e63 s[j])
                  have hm2 := HMARK.out (k + 1) _ hbo HN.out HQ.out
                  rw [show (((k + 1 : Nat)) : Int) = (k : Int) + 1 by omega] at hm2
                  have HM2 := Lib.hid hm2
                  clear e42 e63 q91 hm2
                  go_wp2_with (go_at_call 103; refine HM2.out.mono ?_; rintro e w3 ⟨a3, cap3, rfl, hB3, hb3, hx3⟩)
                  go_roundw
                  case rel => exact ⟨k + 1, _, _, a3, cap3, by omega, by go_num, rfl, markL_length _ _ _, by omega, hB3, hx3, hb3⟩
                  case measure => simp [intOf]; omega
                · rw [decide_eq_false e63] at q63
                  by_cases e91 : p[k] = 91
                  · rw [decide_eq_true e91] at q91
                    have hE := endG_lt (p.data.toList.drop (k + 1))
                    have hplen : p.data.toList.length = p.size := by simp
                    rw [List.length_drop, hplen] at hE
                    have hok := HGK.out.2
                    rw [partsL_at p k h2, List.all_cons, Bool.and_eq_true, e91] at hok
                    have h3 : ¬ endG (p.data.toList.drop (k + 1)) < 0 := fun h3 => by rw [headG_open _ h3] at hok; exact absurd hok.1 (by simp)
                    obtain ⟨m, hm⟩ := Int.eq_ofNat_of_zero_le (Int.not_lt.1 h3)
                    have hcl : ∀ W, Calls Tryd.prog 74 #[.string p, .int .i64 ((k : Int) + 1)] W fun e w' => e = .returned (.int .i64 ((k : Int) + 1 + m)) ∧ w' = W := fun W => by
                      have := closes_calls p (k + 1) W hp (by omega)
                      have hC : closesG p.data.toList (k + 1) = (k : Int) + 1 + m := by unfold closesG; rw [if_neg h3, hm]; omega
                      rwa [hC, show (((k + 1 : Nat)) : Int) = (k : Int) + 1 by omega] at this
                    rw [hm] at hE
                    have hx2 : (p.extract (k + 1) (k + 1 + m)).data.toList = (p.data.toList.drop (k + 1)).take m := by rw [Lib.extract_data]; congr 1; omega
                    have hin : ∀ W, Calls Tryd.prog 75 #[.string (p.extract (k + 1) (k + 1 + m)), .int .u8 s[j].toNat] W fun e w' => e = .returned (.tuple #[.bool ((classG ((p.data.toList.drop (k + 1)).take m)).1 s[j].toNat), .bool (classG ((p.data.toList.drop (k + 1)).take m)).2]) ∧ ∃ n, w' = W.drewN n := fun W => by
                      have := in_calls (p.extract (k + 1) (k + 1 + m)) s[j].toNat W (by simp; omega) (by omega) (by have := s[j].toNat_lt; omega)
                      rwa [hx2, Int.toNat_natCast] at this
                    have hnx := nx_class h2 e91 hm s[j]
                    have hkm : (k : Int) + 2 + m ≤ p.size := by omega
                    generalize classG ((p.data.toList.drop (k + 1)).take m) = C at *
                    have HCL := Lib.hid hcl
                    have HIN := Lib.hid hin
                    clear hcl hin hE hok h3 hx2 hm hplen e42 e63 e91
                    cases hyes : C.1 s[j].toNat
                    · rw [hyes] at hnx
                      have HX := Lib.hid (next_none HNX.out (fun _ => hnx))
                      have HY := Lib.hid hyes
                      clear hnx 
                      go_wp2_with (go_at_call 74; refine (HCL.out _).mono ?_; rintro e w' ⟨rfl, rfl⟩)
                      have y1 : IntKind.i64.wrap ((k : Int) + 1) = k + 1 := IntWalk.i64_in _ (by omega)
                      have y2 : (0 : Int) ≤ k + 1 := by omega
                      have y3 : ((k : Int) + 1).toNat = k + 1 := by omega
                      have y4 : ((k : Int) + 1 + m).toNat = k + 1 + m := by omega
                      have y5 : (k : Int) + 1 ≤ (k : Int) + 1 + m := by omega
                      have y6 : (k : Int) + 1 + m ≤ p.size := by omega
                      go_quiet ((go_at_call 75; exact Calls.quiet_of (HIN.out _)))
                      try clear y1
                      go_wp2_with fail
                      go_roundw
                      case rel => exact ⟨k + 1, N, n', a', cap', by omega, by go_num, rfl, HNL.out, HN6.out, HN.out, HX.out, below_drewN hbo _⟩
                      case measure => simp [intOf]; omega
                    · rw [hyes, if_pos rfl] at hnx
                      have hm2 := fun W hW hNW => HMARK.out (k + 1 + m + 1) W hW hNW hnx
                      rw [show (((k + 1 + m + 1 : Nat)) : Int) = (k : Int) + 1 + m + 1 by omega] at hm2
                      have HM2 := Lib.hid hm2
                      have HY := Lib.hid hyes
                      clear hnx hm2
                      go_wp2_with (go_at_call 74; refine (HCL.out _).mono ?_; rintro e w' ⟨rfl, rfl⟩)
                      have y1 : IntKind.i64.wrap ((k : Int) + 1) = k + 1 := IntWalk.i64_in _ (by omega)
                      have y2 : (0 : Int) ≤ k + 1 := by omega
                      have y3 : ((k : Int) + 1).toNat = k + 1 := by omega
                      have y4 : ((k : Int) + 1 + m).toNat = k + 1 + m := by omega
                      have y5 : (k : Int) + 1 ≤ (k : Int) + 1 + m := by omega
                      have y6 : (k : Int) + 1 + m ≤ p.size := by omega
                      go_quiet ((go_at_call 75; exact Calls.quiet_of (HIN.out _)))
                      try clear y1
                      go_wp2_with (go_at_call 103; refine (HM2.out _ (below_drewN hbo _) HN.out).mono ?_; rintro e w3 ⟨a3, cap3, rfl, hB3, hb3, hx3⟩)
                      go_roundw
                      case rel => exact ⟨k + 1, _, _, a3, cap3, by omega, by go_num, rfl, markL_length _ _ _, by omega, hB3, hx3, hb3⟩
                      case measure => simp [intOf]; omega
                  · rw [decide_eq_false e91] at q91
                    have hnx := nx_byte h2 e42 e63 e91 s[j]
                    have qb : ((p[k].toNat : Int) == s[j].toNat) = decide (p[k] = s[j]) := nat_beq s[j] rfl
                    by_cases eb : p[k] = s[j]
                    · rw [if_pos eb] at hnx
                      rw [decide_eq_true eb] at qb
                      have hm2 := fun W hW hNW => HMARK.out (k + 1) W hW hNW hnx
                      rw [show (((k + 1 : Nat)) : Int) = (k : Int) + 1 by omega] at hm2
                      have HM2 := Lib.hid hm2
                      clear hnx hm2 eb e42 e63 e91
                      go_wp2_with fail
                      go_quiet (fail)
                      go_wp2_with (go_at_call 103; refine (HM2.out _ (below_drewN hbo _) HN.out).mono ?_; rintro e w3 ⟨a3, cap3, rfl, hB3, hb3, hx3⟩)
                      go_roundw
                      case rel => exact ⟨k + 1, _, _, a3, cap3, by omega, by go_num, rfl, markL_length _ _ _, by omega, hB3, hx3, hb3⟩
                      case measure => simp [intOf]; omega
                    · rw [if_neg eb] at hnx
                      rw [decide_eq_false eb] at qb
                      have HX := Lib.hid (next_none HNX.out (fun _ => hnx))
                      clear hnx eb e42 e63 e91
                      go_wp2_with fail
                      go_quiet (fail)
                      go_wp2
                      go_roundw
                      case rel => exact ⟨k + 1, N, n', a', cap', by omega, by go_num, rfl, HNL.out, HN6.out, HN.out, HX.out, below_drewN hbo _⟩
                      case measure => simp [intOf]; omega
          · obtain rfl : k = p.size := by omega
            have hm2 := fun W hNW => mark_at p a' n' cap' N (-1) W H64.out HNL.out hNW HN6.out
            have HM2 := Lib.hid hm2
            clear hm2
            go_wp2_with (first | (go_at_call 103; refine (HM2.out _ HN.out).mono ?_; rintro e w3 ⟨a3, cap3, rfl, hB3, hb3⟩) | (go_at_call 102; refine (reach_at p _ _ _ _ H64.out (markL_length _ _ _) hB3).mono ?_; rintro e w4 ⟨a4, cap4, rfl, hB4, hb4⟩))
            have hcov1 := reach_cov (markL_length _ _ _) (cov_next HSJ.out HCOV.out HSH.out HNX.out) p.size (Nat.le_refl _)
            go_roundw
            case rel => exact ⟨j + 1, a4, cap4, _, by omega, by go_num, rfl, by rw [reachTo_length, markL_length], hB4, hcov1.1, hcov1.2, hb.trans ((hbo.trans ((hb3.trans (hb4.mono hb3.size)).mono hbo.size)).mono hb.size)⟩
            case measure => simp [intOf]; omega
      · obtain rfl : j = s.size := by omega
        obtain ⟨g, rfl, c1⟩ := HB.out p.size (B.getD p.size false) (by rw [List.getD_eq_getElem?_getD, List.getElem?_eq_getElem (by rw [HBL.out]; omega)]; rfl)
        have hd := cov_done (by have := HCOV.out; rwa [show s.size = s.data.toList.length by simp] at this) HSH.out
        rw [hd, ← HM.out] at c1
        clear hd
        go_wp2
        go_ret
        exact ⟨rfl, hb⟩
  · have HM := Lib.hid (matchG_no p.data.toList s.data.toList hr)
    have hb : (rightG p.data.toList != 0) = true := by simpa using hr
    have hcall := fun W => right7_calls p W hp
    generalize rightG p.data.toList = r at *
    have HC := Lib.hid hcall
    clear hr hlen hcall
    go_enter Tryd.func72, Tryd.ntmps72
    go_wp2_with (go_at_call 46; refine (HC.out _).mono ?_; rintro e w' ⟨rfl, n0, rfl⟩)
    go_ret
    exact ⟨ret_bool HM.out.symm, below_drewN (Below.refl _ _) _⟩
end Go.Proofs.YtolaecdopfmbgaaDoor.Gl
