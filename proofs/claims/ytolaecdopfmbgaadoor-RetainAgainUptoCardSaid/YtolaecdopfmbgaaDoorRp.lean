/- The reference's Keep: which names stay, and which go. Condition: at most 1048576 rules and names, patterns and names of at most 1048576 bytes. -/
import Derived.Deep.AppendLies
import Derived.Test.YtolaecdopfmbgaaDoorRo
namespace Go.Proofs.YtolaecdopfmbgaaDoor
open Go.RowKit Go.Shelf

def lastOf (R : List Rul) (i : Nat) : Int := (R.getD i ([], 0)).2
def keepV (R : List Rul) (all : List (List UInt8)) : List (List UInt8) × List (List UInt8) :=
  if rightV R = 0 then keepR (ruleN R) R.length (lastOf R) all else (all, [])
theorem keepV_cons (R : List Rul) (all : List (List UInt8)) (k : Nat) (h : k < all.length) :
    keepV R (all.drop k) = if rightV R ≠ 0 ∨ stayB (ruleN R) R.length (lastOf R) all[k] (all.drop (k + 1)) = true then (all[k] :: (keepV R (all.drop (k + 1))).1, (keepV R (all.drop (k + 1))).2)
      else ((keepV R (all.drop (k + 1))).1, all[k] :: (keepV R (all.drop (k + 1))).2) := by
  unfold keepV
  rw [List.drop_eq_getElem_cons h]
  by_cases h0 : rightV R = 0
  · rw [if_pos h0, if_pos h0, keepR]
    by_cases h1 : stayB (ruleN R) R.length (lastOf R) all[k] (all.drop (k + 1)) = true
    · rw [if_pos h1, if_pos (.inr h1)]
    · rw [if_neg h1, if_neg (by rintro (h | h); exact h h0; exact h1 h)]
  · rw [if_neg h0, if_neg h0, if_pos (.inl h0)]
theorem keepV_nil (R : List Rul) : keepV R [] = ([], []) := by unfold keepV; split <;> rfl
theorem ruleI_eq (R : List Rul) (s t : List UInt8) : (ruleI R s == ruleI R t) = decide (ruleN R s = ruleN R t) := by
  have h1 := ruleN_le R s
  have h2 := ruleN_le R t
  rw [Bool.eq_iff_iff, beq_iff_eq, decide_eq_true_eq]
  unfold ruleI
  constructor
  · intro h
    split at h <;> split at h <;> omega
  · intro h; rw [h]
theorem owns_other {w w' : World} {b : Nat} {e : TypeId} {z : Nat} {v8 v7 : Value} {n : Nat} {xs : List Value} (h : w.ownsRow b e z v8 n xs) (hg : w.grownBy w' v7.ownBlock)
    (hne : ∀ g, v7.ownBlock = some g → v8.ownBlock ≠ some g) : w'.ownsRow b e z v8 n xs := by
  obtain ⟨h1, (⟨h2, h3⟩ | ⟨g, cap, cur, rfl, h3, h4, h5⟩)⟩ := h
  · exact ⟨h1, .inl ⟨h2, h3⟩⟩
  · exact ⟨h1, .inr ⟨g, cap, cur, rfl, h3, (hg.block g (lt_of_block h4) (fun e => hne g e.symm rfl)).trans h4, h5⟩⟩
/-- two rows that don't share their block -/
def Apart (v7 v8 : Value) : Prop := ∀ g, v7.ownBlock = some g → v8.ownBlock ≠ some g
theorem Apart.swap {v7 v8 : Value} (h : Apart v7 v8) : Apart v8 v7 := fun g h8 h7 => h g h7 h8
theorem Apart.next {w : World} {b : Nat} {e : TypeId} {z : Nat} {v7 v8 : Value} {n : Nat} {xs : List Value} {H g : Nat} {m c : Nat} (h : Apart v7 v8) (h8 : w.ownsRow b e z v8 n xs) (hH : w.heap.size ≤ H) (hg : v7.ownBlock = some g ∨ g = H) :
    Apart (.slice (some ⟨g, 0, none⟩) m c) v8 := by
  intro g' hg' h8'
  obtain rfl : g = g' := by simpa [Value.ownBlock] using hg'
  rcases hg with hg | hg
  · exact h g hg h8'
  · have := (h8.lt g h8').2
    omega
theorem grp_drop (ru : List UInt8 → Nat) (all : List (List UInt8)) (j k : Nat) (h : j < all.length) : (grp ru (all.drop j) k).length = (if ru all[j] = k then 1 else 0) + (grp ru (all.drop (j + 1)) k).length := by
  rw [List.drop_eq_getElem_cons h]
  unfold grp
  rw [List.filter_cons]
  by_cases e : ru all[j] = k
  · rw [if_pos (by simpa using e), if_pos e, List.length_cons]; omega
  · rw [if_neg (by simpa using e), if_neg e]; omega

set_option maxRecDepth 100000 in
set_option maxHeartbeats 4000000 in
theorem refKeep_calls (R : List Rul) (l : List (List UInt8)) (va vb : Value) (w : World) (hva : RulIn w va R) (hs : RulS R) (hn : R.length ≤ 1048576) (hvb : NamIn w vb l) (hl : Small l) (hm : l.length ≤ 1048576) :
    Calls Tryd.prog 21 #[va, vb] w fun e w' => ∃ v1 v2, e = .returned (.tuple #[v1, v2]) ∧ w'.ownsRow w.heap.size 9 1 v1 (keepV R (rowV l)).1.length (namC (keepV R (rowV l)).1) ∧ w'.ownsRow w.heap.size 9 1 v2 (keepV R (rowV l)).2.length (namC (keepV R (rowV l)).2) ∧ Below w.heap.size w w' := by
  obtain ⟨i0, hi, hz0, hz1, hz2⟩ := info_parts infoStr
  have hrow := fun W (h : NamIn W vb l) => refRow_calls l vb W h hl hm
  have hlen : (rowV l).length ≤ 1048576 := by have := rowV_length l l.length; rw [List.take_length] at this; omega
  have hsm : Small (rowV l) := fun x hx => hl x ((rowV_mem x l).1 hx)
  generalize rowV l = all at *
  obtain ⟨a, ca, rfl, hca⟩ := hva.at_
  have HCA := Lib.hid hca
  have HR0 := Lib.hid hva
  have HROW := Lib.hid (hrow w hvb)
  have HS := Lib.hid hs
  have HSM := Lib.hid hsm
  have hlen' : (all.length : Int) ≤ 1048576 := by omega
  have hn' : (R.length : Int) ≤ 1048576 := by omega
  clear hva hvb hl hm hrow hca hs hsm
  go_enter Tryd.func21, Tryd.ntmps21
  go_wp2_with fail
  refine HROW.out.mono ?_
  rintro e w1 ⟨v6, rfl, o6, b6⟩
  obtain ⟨a6, c6, rfl, h6⟩ := (NamIn.of_owns o6).at_
  have HC6 := Lib.hid h6
  have HB6 := Lib.hid b6
  have hs6 := b6.size
  have HR1 := Lib.hid (HR0.out.below b6)
  clear h6 o6 b6
  go_wp2_with fail
  go_loopw [7, 8, 9] (fun v7 v8 i wr => ∃ (S G : List (List UInt8)) (k : Nat), i = .int .i64 k ∧ (k : Int) ≤ all.length ∧ (S.length : Int) ≤ k ∧ (G.length : Int) ≤ k ∧ Hid ((keepV R all).1 = S ++ (keepV R (all.drop k)).1 ∧ (keepV R all).2 = G ++ (keepV R (all.drop k)).2) ∧ wr.ownsRow w1.heap.size 9 1 v7 S.length (namC S) ∧ wr.ownsRow w1.heap.size 9 1 v8 G.length (namC G) ∧ Hid (Apart v7 v8) ∧ Below w1.heap.size w1 wr) (fun _ _ i _ => all.length - (intOf i).toNat)
  case atStart => exact ⟨[], [], 0, rfl, by omega, by simp, by simp, ⟨rfl, rfl⟩, World.ownsRow_nil _ _ _ _, World.ownsRow_nil _ _ _ _, (fun g h => by simp [Value.ownBlock] at h), Below.refl _ _⟩
  case round =>
    obtain ⟨S, G, k, rfl, hk, hS, hG, hx, hown7, hown8, hap, hb⟩ := hrel
    have HB := Lib.hid hb
    have H7 := Lib.hid hown7
    have H8 := Lib.hid hown8
    have hsz := hb.size
    clear hown7 hown8
    by_cases hlt : (k : Int) < all.length
    · have hlt' : k < all.length := by omega
      obtain ⟨g1, o1, rfl, c1⟩ := HC6.out wr hb k hlt'
      have hxs := HSM.out _ (List.getElem_mem hlt')
      have hcons := keepV_cons R all k hlt'
      have HRL := Lib.hid (rule44_calls R all[k] _ wr (HR1.out.below hb) HS.out (by omega) hxs)
      have HCONS := Lib.hid hcons
      clear hb hcons
      go_wp2_with fail
      refine HRL.out.mono ?_
      rintro e w2 ⟨rfl, b2⟩
      have HB2 : Hid (Below w1.heap.size w1 w2) := HB.out.trans (b2.mono hsz)
      have H72 := Lib.hid (ownsRow_below H7.out b2)
      have H82 := Lib.hid (ownsRow_below H8.out b2)
      have hsz2 := HB2.out.size
      clear HRL H7 H8 HB hsz b2
      go_wp2_with fail
      obtain ⟨wo, rfl⟩ : ∃ wo : World, wo = w2 := ⟨_, rfl⟩
      go_loopw [11, 12] (fun bh j wi => ∃ b m : Nat, bh = .int .i64 b ∧ j = .int .i64 m ∧ (m : Int) ≤ all.length ∧ (b : Int) ≤ m ∧ Hid ((grp (ruleN R) (all.drop (k + 1)) (ruleN R all[k])).length = b + (grp (ruleN R) (all.drop m) (ruleN R all[k])).length) ∧ Below wo.heap.size wo wi) (fun _ j _ => all.length - (intOf j).toNat)
      case atStart => exact ⟨0, k + 1, rfl, by go_num, by omega, by omega, by simp [Hid], Below.refl _ _⟩
      case round =>
        obtain ⟨b, m, rfl, rfl, hm1, hbm, hgr, hbi⟩ := hrel
        have HBI := Lib.hid hbi
        have hszi := hbi.size
        by_cases hmt : (m : Int) < all.length
        · have hmt' : m < all.length := by omega
          obtain ⟨g2, o2, e2, c2⟩ := HC6.out wr (HB2.out.trans (hbi.mono hsz2)) m hmt'
          cases e2
          have HRL := Lib.hid (rule44_calls R all[m] _ wr (HR1.out.below (HB2.out.trans (hbi.mono hsz2))) HS.out (by omega) (HSM.out _ (List.getElem_mem hmt')))
          have hq := ruleI_eq R all[m] all[k]
          have hg := grp_drop (ruleN R) all m (ruleN R all[k]) hmt'
          clear hbi
          by_cases he : ruleN R all[m] = ruleN R all[k]
          · rw [decide_eq_true he] at hq
            rw [if_pos he] at hg
            have HG2 := Lib.hid hg
            clear hg he
            go_wp2_with (refine HRL.out.mono ?_; rintro e w3 ⟨rfl, b3⟩)
            go_roundw
            case rel => exact ⟨b + 1, m + 1, by go_num, by go_num, by omega, by omega, by unfold Hid; rw [hgr.out, HG2.out]; omega, HBI.out.trans (b3.mono hszi)⟩
            case measure => simp [intOf]; omega
          · rw [decide_eq_false he] at hq
            rw [if_neg he] at hg
            have HG2 := Lib.hid hg
            clear hg he
            go_wp2_with (refine HRL.out.mono ?_; rintro e w3 ⟨rfl, b3⟩)
            go_roundw
            case rel => exact ⟨b, m + 1, by rfl, by go_num, by omega, by omega, by unfold Hid; rw [hgr.out, HG2.out]; omega, HBI.out.trans (b3.mono hszi)⟩
            case measure => simp [intOf]; omega
        · have hmt' : all.length ≤ m := by omega
          have hcount : Hid ((grp (ruleN R) (all.drop (k + 1)) (ruleN R all[k])).length = b) := by
            unfold Hid; rw [hgr.out, List.drop_eq_nil_of_le hmt']; simp [grp]
          have HB3 : Hid (Below w1.heap.size w1 wr) := HB2.out.trans (hbi.mono hsz2)
          have H73 := Lib.hid (ownsRow_below H72.out hbi)
          have H83 := Lib.hid (ownsRow_below H82.out hbi)
          have hsz3 := HB3.out.size
          obtain ⟨g5, o5, e5, c4⟩ := HC6.out wr HB3.out k hlt'
          cases e5
          have HRT := Lib.hid (right24_calls R _ wr (HR1.out.below HB3.out) HS.out (by omega))
          have hrl := ruleN_le R all[k]
          have hri : ruleI R all[k] = if ruleN R all[k] < R.length then ((ruleN R all[k] : Nat) : Int) else -1 := rfl
          have HCR : Hid (∀ q, q < R.length → ∃ g off, a = some ⟨g, off, none⟩ ∧ wr.cell? ⟨g, off + q * 2 + 1, none⟩ = some (.int .i64 (lastOf R q)) ∧ -9223372036854775808 ≤ lastOf R q ∧ lastOf R q ≤ 9223372036854775807) := fun q hq => by
            obtain ⟨g, off, e, _, _, c⟩ := HCA.out wr ((HB6.out.trans (HB3.out.mono hs6))) q hq
            have el : lastOf R q = R[q].2 := by unfold lastOf; rw [List.getD_eq_getElem?_getD, List.getElem?_eq_getElem hq]; rfl
            have hb := (HS.out R[q] (List.getElem_mem hq)).2
            exact ⟨g, off, e, by rw [el]; exact c, by rw [el]; exact hb.1, by rw [el]; exact hb.2⟩
          have hstay : stayB (ruleN R) R.length (lastOf R) all[k] (all.drop (k + 1)) = (decide (R.length ≤ ruleN R all[k]) || decide ((b : Int) < lastOf R (ruleN R all[k]))) := by unfold stayB; rw [hcount.out]
          have HST := Lib.hid hstay
          clear hstay hbi c1 hgr hcount
          generalize hxx : all[k] = x at *
          generalize ruleI R x = ri at *
          generalize ruleN R x = kk at *
          by_cases hR0 : rightV R = 0
          · have q0 : (rightV R != 0) = false := by simp [hR0]
            by_cases hkk : kk < R.length
            · rw [if_pos hkk] at hri
              subst hri
              obtain ⟨g6, o6, e6, cl, hl1, hl2⟩ := HCR.out kk hkk
              subst e6
              have hkk' : (kk : Int) < R.length := by omega
              have hk0 : (0 : Int) ≤ kk := by omega
              have hd1 : decide (R.length ≤ kk) = false := by simp; omega
              generalize rightV R = rv at *
              by_cases hbl : (b : Int) < lastOf R kk
              · have HPP : Hid (rv ≠ 0 ∨ stayB (ruleN R) R.length (lastOf R) x (all.drop (k + 1)) = true) := .inr (by rw [HST.out, hd1, decide_eq_true hbl]; rfl)
                generalize lastOf R kk = ln at *
                clear HST hd1 hR0
                go_wp2_with (first | (go_at_call 24; refine (HRT.out).mono ?_; rintro e w3 ⟨rfl, nq, rfl⟩; have cc : (wr.drewN nq).cell? ⟨g1, o1 + k, none⟩ = some (.string (strV x)) := c4; have cl4 : (wr.drewN nq).cell? ⟨g6, o6 + kk * 2 + 1, none⟩ = some (.int .i64 ln) := cl; have H74 : (wr.drewN nq).ownsRow w1.heap.size 9 1 u7 S.length (namC S) := H73.out; have hs4 : w1.heap.size ≤ (wr.drewN nq).heap.size := hsz3) | (at_builtin; refine wpList_append_lies _ rfl _ _ 46 rfl w1.heap.size 9 i0 (.string ByteArray.empty) 1 16 Tryd.underlying46 hi hz0 hz1 hz2 rfl (by decide) _ _ _ rfl (H74.alloc _) ⟨(wr.drewN nq).heap.size, 0, none⟩ 1 1 [.string (strV x)] rfl rfl (cell_one_new _ _ _) (by simp [Value.oneCell']) (by decide) (by unfold maxLen; omega) (by omega) (by simp; omega) ((wr.drewN nq).heap.size + 1) (by simp) ?_; intro g' cap' w4 hown' hgrow hat hlt4))
                go_roundw
                case rel =>
                  have H84 : (wr.drewN nq).ownsRow w1.heap.size 9 1 u8 G.length (namC G) := H83.out
                  have h8' := owns_other (v7 := u7) (H84.alloc (.cells #[.string (strV x)] 9)) hgrow hap.out
                  refine ⟨S ++ [x], G, k + 1, by go_num, by omega, by rw [List.length_append]; simp; omega, by omega, ?_, ?_, h8', Apart.next hap.out H84 (by omega) hat, ((below_drewN HB3.out nq).alloc hs4 _).grown hgrow (by simp; omega) (fun r e => (H74.lt r e).1)⟩
                  · unfold Hid
                    rw [hx.out.1, hx.out.2, HCONS.out, if_pos HPP.out, List.append_assoc]
                    exact ⟨rfl, rfl⟩
                  · rw [List.length_append, namC_snoc]
                    exact hown'
                case measure => simp [intOf]; omega
              · have HPP : Hid (¬ (rv ≠ 0 ∨ stayB (ruleN R) R.length (lastOf R) x (all.drop (k + 1)) = true)) := by
                  rintro (h | h)
                  · exact h hR0
                  · rw [HST.out, hd1, decide_eq_false hbl] at h; cases h
                generalize lastOf R kk = ln at *
                clear HST hd1 hR0
                go_wp2_with (first | (go_at_call 24; refine (HRT.out).mono ?_; rintro e w3 ⟨rfl, nq, rfl⟩; have cc : (wr.drewN nq).cell? ⟨g1, o1 + k, none⟩ = some (.string (strV x)) := c4; have cl4 : (wr.drewN nq).cell? ⟨g6, o6 + kk * 2 + 1, none⟩ = some (.int .i64 ln) := cl; have H84 : (wr.drewN nq).ownsRow w1.heap.size 9 1 u8 G.length (namC G) := H83.out; have hs4 : w1.heap.size ≤ (wr.drewN nq).heap.size := hsz3) | (at_builtin; refine wpList_append_lies _ rfl _ _ 46 rfl w1.heap.size 9 i0 (.string ByteArray.empty) 1 16 Tryd.underlying46 hi hz0 hz1 hz2 rfl (by decide) _ _ _ rfl (H84.alloc _) ⟨(wr.drewN nq).heap.size, 0, none⟩ 1 1 [.string (strV x)] rfl rfl (cell_one_new _ _ _) (by simp [Value.oneCell']) (by decide) (by unfold maxLen; omega) (by omega) (by simp; omega) ((wr.drewN nq).heap.size + 1) (by simp) ?_; intro g' cap' w4 hown' hgrow hat hlt4))
                go_roundw
                case rel =>
                  have H74 : (wr.drewN nq).ownsRow w1.heap.size 9 1 u7 S.length (namC S) := H73.out
                  have h7' := owns_other (v7 := u8) (H74.alloc (.cells #[.string (strV x)] 9)) hgrow hap.out.swap
                  refine ⟨S, G ++ [x], k + 1, by go_num, by omega, by omega, by rw [List.length_append]; simp; omega, ?_, h7', ?_, (Apart.next hap.out.swap H74 (by omega) hat).swap, ((below_drewN HB3.out nq).alloc hs4 _).grown hgrow (by simp; omega) (fun r e => (H84.lt r e).1)⟩
                  · unfold Hid
                    rw [hx.out.1, hx.out.2, HCONS.out, if_neg HPP.out, List.append_assoc]
                    exact ⟨rfl, rfl⟩
                  · rw [List.length_append, namC_snoc]
                    exact hown'
                case measure => simp [intOf]; omega
            · rw [if_neg hkk] at hri
              subst hri
              have HPP : Hid (rightV R ≠ 0 ∨ stayB (ruleN R) R.length (lastOf R) x (all.drop (k + 1)) = true) := .inr (by rw [HST.out, decide_eq_true (by omega)]; rfl)
              generalize rightV R = rv at *
              clear HST hkk hrl hR0
              go_wp2_with (first | (go_at_call 24; refine (HRT.out).mono ?_; rintro e w3 ⟨rfl, nq, rfl⟩; have cc : (wr.drewN nq).cell? ⟨g1, o1 + k, none⟩ = some (.string (strV x)) := c4; have H74 : (wr.drewN nq).ownsRow w1.heap.size 9 1 u7 S.length (namC S) := H73.out; have hs4 : w1.heap.size ≤ (wr.drewN nq).heap.size := hsz3) | (at_builtin; refine wpList_append_lies _ rfl _ _ 46 rfl w1.heap.size 9 i0 (.string ByteArray.empty) 1 16 Tryd.underlying46 hi hz0 hz1 hz2 rfl (by decide) _ _ _ rfl (H74.alloc _) ⟨(wr.drewN nq).heap.size, 0, none⟩ 1 1 [.string (strV x)] rfl rfl (cell_one_new _ _ _) (by simp [Value.oneCell']) (by decide) (by unfold maxLen; omega) (by omega) (by simp; omega) ((wr.drewN nq).heap.size + 1) (by simp) ?_; intro g' cap' w4 hown' hgrow hat hlt4))
              go_roundw
              case rel =>
                have H84 : (wr.drewN nq).ownsRow w1.heap.size 9 1 u8 G.length (namC G) := H83.out
                have h8' := owns_other (v7 := u7) (H84.alloc (.cells #[.string (strV x)] 9)) hgrow hap.out
                refine ⟨S ++ [x], G, k + 1, by go_num, by omega, by rw [List.length_append]; simp; omega, by omega, ?_, ?_, h8', Apart.next hap.out H84 (by omega) hat, ((below_drewN HB3.out nq).alloc hs4 _).grown hgrow (by simp; omega) (fun r e => (H74.lt r e).1)⟩
                · unfold Hid
                  rw [hx.out.1, hx.out.2, HCONS.out, if_pos HPP.out, List.append_assoc]
                  exact ⟨rfl, rfl⟩
                · rw [List.length_append, namC_snoc]
                  exact hown'
              case measure => simp [intOf]; omega
          · have q0 : (rightV R != 0) = true := by simp [hR0]
            have HPP : Hid (rightV R ≠ 0 ∨ stayB (ruleN R) R.length (lastOf R) x (all.drop (k + 1)) = true) := .inl hR0
            generalize rightV R = rv at *
            clear HST hR0 hri hrl
            go_wp2_with (first | (go_at_call 24; refine (HRT.out).mono ?_; rintro e w3 ⟨rfl, nq, rfl⟩; have cc : (wr.drewN nq).cell? ⟨g1, o1 + k, none⟩ = some (.string (strV x)) := c4; have H74 : (wr.drewN nq).ownsRow w1.heap.size 9 1 u7 S.length (namC S) := H73.out; have hs4 : w1.heap.size ≤ (wr.drewN nq).heap.size := hsz3) | (at_builtin; refine wpList_append_lies _ rfl _ _ 46 rfl w1.heap.size 9 i0 (.string ByteArray.empty) 1 16 Tryd.underlying46 hi hz0 hz1 hz2 rfl (by decide) _ _ _ rfl (H74.alloc _) ⟨(wr.drewN nq).heap.size, 0, none⟩ 1 1 [.string (strV x)] rfl rfl (cell_one_new _ _ _) (by simp [Value.oneCell']) (by decide) (by unfold maxLen; omega) (by omega) (by simp; omega) ((wr.drewN nq).heap.size + 1) (by simp) ?_; intro g' cap' w4 hown' hgrow hat hlt4))
            go_roundw
            case rel =>
              have H84 : (wr.drewN nq).ownsRow w1.heap.size 9 1 u8 G.length (namC G) := H83.out
              have h8' := owns_other (v7 := u7) (H84.alloc (.cells #[.string (strV x)] 9)) hgrow hap.out
              refine ⟨S ++ [x], G, k + 1, by go_num, by omega, by rw [List.length_append]; simp; omega, by omega, ?_, ?_, h8', Apart.next hap.out H84 (by omega) hat, ((below_drewN HB3.out nq).alloc hs4 _).grown hgrow (by simp; omega) (fun r e => (H74.lt r e).1)⟩
              · unfold Hid
                rw [hx.out.1, hx.out.2, HCONS.out, if_pos HPP.out, List.append_assoc]
                exact ⟨rfl, rfl⟩
              · rw [List.length_append, namC_snoc]
                exact hown'
            case measure => simp [intOf]; omega
    · have hnil : Hid (keepV R (all.drop k) = ([], [])) := by unfold Hid; rw [List.drop_eq_nil_of_le (by omega)]; exact keepV_nil R
      go_wp2_with fail
      go_ret2
      have e1 : (keepV R all).1 = S := by rw [hx.out.1, hnil.out, List.append_nil]
      have e2 : (keepV R all).2 = G := by rw [hx.out.2, hnil.out, List.append_nil]
      exact ⟨_, _, rfl, by rw [e1]; exact ownsRow_wider H7.out hs6, by rw [e2]; exact ownsRow_wider H8.out hs6, HB6.out.trans (HB.out.mono hs6)⟩
end Go.Proofs.YtolaecdopfmbgaaDoor
