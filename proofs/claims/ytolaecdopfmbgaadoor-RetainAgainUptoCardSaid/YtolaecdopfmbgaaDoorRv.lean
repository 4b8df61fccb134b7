/- The law RetainKeeps: which names stay, and which go. Condition: at most 1048576 rules and names, patterns and names of at most 1048576 bytes. -/
import Derived.Test.YtolaecdopfmbgaaDoorRu
namespace Go.Proofs.YtolaecdopfmbgaaDoor
open Go.RowKit Go.Shelf

set_option maxRecDepth 100000 in
set_option maxHeartbeats 4000000 in
theorem law_keeps (R : List Rul) (l : List (List UInt8)) (va vb : Value) (w : World) (hva : RulIn w va R) (hs : RulS R) (hn : R.length ≤ 1048576) (hvb : NamIn w vb l) (hl : Small l) (hm : l.length ≤ 1048576) :
    Calls Tryd.prog 7 #[va, vb] w fun e w' => e = .returned (.bool true) ∧ Below w.heap.size w w' := by
  have hlen : (rowV l).length ≤ 1048576 := by have := rowV_len l; omega
  have hk1 : (keepV R (rowV l)).1.length ≤ 1073741824 := by
    have : (keepR (ruleN R) R.length (lastOf R) (rowV l)).1.length ≤ (rowV l).length := (keepR_sub (rowV l)).1.length_le
    unfold keepV; split
    · omega
    · simp only; omega
  have hk2 : (keepV R (rowV l)).2.length ≤ 1073741824 := by
    have : (keepR (ruleN R) R.length (lastOf R) (rowV l)).2.length ≤ (rowV l).length := (keepR_sub (rowV l)).2.length_le
    unfold keepV; split
    · omega
    · simp
  have HR := Lib.hid hva
  have HN := Lib.hid hvb
  have HRU := Lib.hid (fun W h => rules_calls R va W h hn)
  have HK := Lib.hid (fun v W h1 h2 => keep_calls R l v vb W h1 hs hn h2 hl hm)
  have HRK := Lib.hid (fun W h1 h2 => refKeep_calls R l va vb W h1 hs hn h2 hl hm)
  have HR3 := Lib.hid (fun v W h1 => right23_calls R v W h1 hs hn)
  have HR4 := Lib.hid (fun W h1 => right24_calls R va W h1 hs hn)
  have HT := Lib.hid (fun (l : List (List UInt8)) (va vb : Value) (w : World) ha hb hl => texts_same l va vb w ha hb hl)
  have HL := Lib.hid lives_calls
  clear hva hvb
  go_enter Tryd.func7, Tryd.ntmps7
  go_wp2_with fail
  refine (HRU.out w HR.out).mono ?_
  rintro e w1 ⟨v1, rfl, o1, b1⟩
  have hR1 := Lib.hid (RulIn.of_owns o1)
  have HB1 := Lib.hid b1
  have hs1 := b1.size
  clear o1 b1
  go_wp2_with fail
  refine (HK.out v1 w1 hR1.out (HN.out.below HB1.out)).mono ?_
  rintro e w2 ⟨a, b, rfl, oa, ob, b2⟩
  have ha := Lib.hid (NamIn.of_owns oa)
  have hb := Lib.hid (NamIn.of_owns ob)
  have HB2 : Hid (Below w.heap.size w w2) := HB1.out.trans (b2.mono hs1)
  have hs2 := HB2.out.size
  clear oa ob b2
  go_wp2_with fail
  refine (HRK.out w2 (HR.out.below HB2.out) (HN.out.below HB2.out)).mono ?_
  rintro e w3 ⟨c, d, rfl, oc, od, b3⟩
  have hc := Lib.hid (NamIn.of_owns oc)
  have hd := Lib.hid (NamIn.of_owns od)
  have ha3 := Lib.hid (ha.out.below b3)
  have hb3 := Lib.hid (hb.out.below b3)
  have HB3 : Hid (Below w.heap.size w w3) := HB2.out.trans (b3.mono hs2)
  have hs3 := HB3.out.size
  clear oc od b3 ha hb
  go_wp2_with fail
  refine (HT.out _ _ _ _ ha3.out hc.out hk1).mono ?_
  rintro e w4 ⟨rfl, n4, rfl⟩
  go_wp2_with fail
  refine (HT.out _ _ _ (w3.drewN n4) hb3.out hd.out hk2).mono ?_
  rintro e w5 ⟨rfl, n5, rfl⟩
  have b5 : Below w.heap.size w ((w3.drewN n4).drewN n5) := below_drewN (below_drewN HB3.out n4) n5
  generalize (w3.drewN n4).drewN n5 = w5 at *
  have HB5 := Lib.hid b5
  have hs5 := b5.size
  clear b5 HB3 hs3 hc hd ha3 hb3
  go_wp2_with fail
  refine (HRU.out w5 (HR.out.below HB5.out)).mono ?_
  rintro e w6 ⟨v6, rfl, o6, b6⟩
  have hR6 := Lib.hid (RulIn.of_owns o6)
  have HB6 : Hid (Below w.heap.size w w6) := HB5.out.trans (b6.mono hs5)
  have hs6 := HB6.out.size
  clear o6 b6
  go_wp2_with fail
  refine (HR3.out _ w6 hR6.out).mono ?_
  rintro e w7 ⟨rfl, b7⟩
  have HB7 : Hid (Below w.heap.size w w7) := HB6.out.trans (b7.mono hs6)
  have hs7 := HB7.out.size
  clear b7
  go_wp2_with fail
  refine (HR4.out w7 (HR.out.below HB7.out)).mono ?_
  rintro e w8 ⟨rfl, n8, rfl⟩
  generalize rightV R = rv at *
  have b8 : Below w.heap.size w (w7.drewN n8) := below_drewN HB7.out n8
  generalize w7.drewN n8 = w8 at *
  have HB8 := Lib.hid b8
  have hs8 := b8.size
  clear b8
  go_wp2_with fail
  refine (HL.out w8).mono ?_
  rintro e w9 ⟨rfl, b9⟩
  go_wp2_with fail
  go_ret
  exact ⟨rfl, HB8.out.trans (b9.mono hs8)⟩
end Go.Proofs.YtolaecdopfmbgaaDoor
