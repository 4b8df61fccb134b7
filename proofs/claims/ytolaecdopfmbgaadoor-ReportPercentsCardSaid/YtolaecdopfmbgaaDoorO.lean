/- manifest.size: for every string of at most 140737488351232 bytes. -/
import Derived.Lib.AtoiTie
import Derived.Lib.AtoiAllCases
import Derived.Lib.SmallJoins
import Derived.Test.YtolaecdopfmbgaaDoorN
namespace Go.Proofs.YtolaecdopfmbgaaDoor
open Go.RowKit

/-- what the call leans on: a table, two errors -/
def Env (w : World) : Prop := Pow w ∧ (∃ tp p, World.var? Tryd.prog w "strconv.ErrSyntax" = some #[.iface tp p]) ∧ ∃ tp p, World.var? Tryd.prog w "strconv.ErrRange" = some #[.iface tp p]
theorem named1 : ∃ g, Tryd.prog.globalNamed "strconv.ErrSyntax" = some g := Option.isSome_iff_exists.1 (by kernel_rfl)
theorem named2 : ∃ g, Tryd.prog.globalNamed "strconv.ErrRange" = some g := Option.isSome_iff_exists.1 (by kernel_rfl)
theorem var_below {w w' : World} {n : String} {cs : Array Value} (hn : ∃ g, Tryd.prog.globalNamed n = some g) (h : World.var? Tryd.prog w n = some cs) (hb : Below w.heap.size w w') : World.var? Tryd.prog w' n = some cs := by
  obtain ⟨g, hg⟩ := hn
  unfold World.var? at h ⊢
  rw [hg] at h ⊢
  simp only [Option.bind_some] at h ⊢
  have hlt : g < w.heap.size := by
    rcases Nat.lt_or_ge g w.heap.size with h' | h'
    · exact h'
    · simp [Array.getElem?_eq_none h'] at h
  rw [hb.block g hlt]; exact h
theorem Env.below {w w' : World} (h : Env w) (hb : Below w.heap.size w w') : Env w' := by
  obtain ⟨h1, ⟨t1, p1, h2⟩, ⟨t2, p2, h3⟩⟩ := h
  exact ⟨h1.below hb, ⟨t1, p1, var_below named1 h2 hb⟩, ⟨t2, p2, var_below named2 h3 hb⟩⟩

theorem below_atoi {w w1 : World} (h : w1 = w ∨ ∃ t, w1 = Lib.bytesWorld w 5 t) : Below w.heap.size w w1 := by
  rcases h with rfl | ⟨t, rfl⟩
  · exact Below.refl _ _
  · exact Lib.bytesWorld_below w 5 t
/-- the size that a text tells -/
def sizeV (s : List UInt8) : Option Int := match Lib.atoiAll s with
  | .ok v => if 0 ≤ v ∧ v ≤ 999999999 ∧ Lib.itoa v = s then some v else none
  | _ => none
def SizePost (s : List UInt8) (w : World) (e : Ending) (w' : World) : Prop :=
  ∃ n : Int, e = .returned (.tuple #[.int .i64 n, .bool (sizeV s).isSome]) ∧ (∀ v, sizeV s = some v → n = v) ∧ -9223372036854775808 ≤ n ∧ n ≤ 9223372036854775807 ∧ Below w.heap.size w w'

theorem SizePost.no {s : List UInt8} {w w' : World} {n : Int} (h : sizeV s = none) (h1 : -9223372036854775808 ≤ n) (h2 : n ≤ 9223372036854775807) (hb : Below w.heap.size w w') :
    SizePost s w (.returned (.tuple #[.int .i64 n, .bool false])) w' :=
  ⟨n, by rw [h]; rfl, fun u hu => (by rw [h] at hu; cases hu), h1, h2, hb⟩

set_option maxHeartbeats 2000000 in
set_option maxRecDepth 100000 in
theorem size_calls (s : ByteArray) (w : World) (hs : s.size ≤ 140737488351232) (hE : Env w) :
    Calls Tryd.prog 57 #[.string s] w (SizePost s.data.toList w) := by
  obtain ⟨hP, ⟨t1, p1, hv1⟩, ⟨t2, p2, hv2⟩⟩ := hE
  rcases hA : Lib.atoiAll s.data.toList with v | _ | _
  ·
    have hbd := Lib.atoiAll_bounds hA
    have H83 := Lib.hid (Tryd.strconv_Atoi_ok s (by omega) v hA w)
    have H28 := Lib.hid (itoa_calls v hbd.1 hbd.2)
    have HSV := Lib.hid (show sizeV s.data.toList = if 0 ≤ v ∧ v ≤ 999999999 ∧ Lib.itoa v = s.data.toList then some v else none by unfold sizeV; rw [hA])
    have HP := Lib.hid hP
    have HBD := Lib.hid hbd
    clear hA hs hP hv1 hv2 hbd
    by_cases h0 : v ≥ 0
    · by_cases h1 : v ≤ 999999999
      · go_enter Tryd.func57, Tryd.ntmps57
        go_wp2_with (first | (go_at_call 83; refine H83.out.mono ?_; rintro e w1 ⟨rfl, hw1⟩; have hb : Below w.heap.size w w1 := below_atoi hw1; clear hw1) | (go_at_call 28; refine (H28.out _ (HP.out.below hb)).mono ?_; rintro e w2 ⟨rfl, hb2⟩))
        go_ret2
        refine ⟨v, ?_, ?_, HBD.out.1, HBD.out.2, hb.trans (hb2.mono hb.size)⟩
        · rw [HSV.out, ByteArray.toList_eq]
          by_cases hq : Lib.itoa v = s.data.toList
          · rw [if_pos ⟨h0, h1, hq⟩, hq, beq_self_eq_true]; rfl
          · rw [if_neg (fun h => hq h.2.2), beq_eq_false_iff_ne.2 hq]; rfl
        · intro u hu
          rw [HSV.out] at hu
          split at hu
          · simpa using hu
          · cases hu
      · go_enter Tryd.func57, Tryd.ntmps57
        have h1' : ¬ (v : Int) ≤ 999999999 := h1
        go_wp2_with (first | (go_at_call 83; refine H83.out.mono ?_; rintro e w1 ⟨rfl, hw1⟩; have hb : Below w.heap.size w w1 := below_atoi hw1; clear hw1))
        go_ret2
        exact SizePost.no (by rw [HSV.out, if_neg (fun h => by omega)]) HBD.out.1 HBD.out.2 hb
    · go_enter Tryd.func57, Tryd.ntmps57
      go_wp2_with (first | (go_at_call 83; refine H83.out.mono ?_; rintro e w1 ⟨rfl, hw1⟩; have hb : Below w.heap.size w w1 := below_atoi hw1; clear hw1))
      go_ret2
      exact SizePost.no (by rw [HSV.out, if_neg (fun h => by omega)]) HBD.out.1 HBD.out.2 hb
  ·
    have H83 := Lib.hid (Tryd.strconv_Atoi_syntax_var s (by omega) hA t1 p1 w hv1)
    have HN := Lib.hid (show sizeV s.data.toList = none by unfold sizeV; rw [hA])
    clear hA hs hP hv1 hv2
    go_enter Tryd.func57, Tryd.ntmps57
    go_wp2_with (first | (go_at_call 83; refine H83.out.mono ?_; rintro e w1 ⟨N, rfl, _, _, hb⟩))
    go_ret2
    exact SizePost.no HN.out (by omega) (by omega) hb
  ·
    have H83 := Lib.hid (Tryd.strconv_Atoi_range_var s (by omega) hA t2 p2 w hv2)
    have HN := Lib.hid (show sizeV s.data.toList = none by unfold sizeV; rw [hA])
    have HSA := Lib.hid (show -9223372036854775808 ≤ Lib.atoiSat s.data.toList ∧ Lib.atoiSat s.data.toList ≤ 9223372036854775807 by unfold Lib.atoiSat; split <;> omega)
    clear hA hs hP hv1 hv2
    go_enter Tryd.func57, Tryd.ntmps57
    go_wp2_with (first | (go_at_call 83; refine H83.out.mono ?_; rintro e w1 ⟨N, rfl, _, _, hb⟩))
    go_ret2
    exact SizePost.no HN.out HSA.out.1 HSA.out.2 hb
end Go.Proofs.YtolaecdopfmbgaaDoor
