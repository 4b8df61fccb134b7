/- The reference's again: is a digest ahead in a row of references? For every row of at most 140737488351232 references. -/
import Derived.Test.YtolaecdopfmbgaaDoorA
namespace Go.Proofs.YtolaecdopfmbgaaDoor
open Go.RowKit
attribute [local go_sem] equalIn_dig eqGuard39

def hasD (L : List Rf) (d : List UInt8) : Bool := L.any fun r => r.d == d
theorem hasD_take {L : List Rf} {d : List UInt8} {k : Nat} {r : Rf} (h : L[k]? = some r) : hasD (L.take (k + 1)) d = (hasD (L.take k) d || (r.d == d)) := by
  unfold hasD
  rw [List.take_add_one, h, List.any_append]; simp

theorem hasD_of {L : List Rf} {d : List UInt8} {k i : Nat} {r : Rf} (h : L[k]? = some r) (hk : k < i) (hd : (r.d == d) = true) : hasD (L.take i) d = true := by
  unfold hasD
  rw [List.any_eq_true]
  exact ⟨r, List.mem_of_getElem? (i := k) (by rw [List.getElem?_take, if_pos hk, h]), hd⟩

set_option maxHeartbeats 1000000 in
set_option maxRecDepth 100000 in
theorem again_calls (A : Option Addr) (cap : Nat) (L : List Rf) (i : Nat) (x : Rf) (w : World) (hl : L.length ≤ 140737488351232) (hL : RefsIn w A L) (hi : L[i]? = some x) :
    Calls Tryd.prog 29 #[.slice A L.length cap, .int .i64 i] w fun e w' => e = .returned (.bool (hasD (L.take i) x.d)) ∧ ∃ n, w' = w.drewN n := by
  have hi1 := (List.getElem?_eq_some_iff.1 hi).1
  have hi2 : (i : Int) ≤ 140737488351232 := by omega
  have hi3 : (i : Int) < L.length := by omega
  go_enter Tryd.func29, Tryd.ntmps29
  go_wp2
  go_loopw [5] (fun c wr => ∃ k n : Nat, k ≤ i ∧ c = .int .i64 k ∧ hasD (L.take k) x.d = false ∧ wr = w.drewN n) (fun c _ => i - (intOf c).toNat)
  case atStart => exact ⟨0, 0, by omega, rfl, rfl, rfl⟩
  case round =>
    obtain ⟨k, n, hk, rfl, hno, rfl⟩ := hrel
    by_cases hlt : (k : Int) < i
    · obtain ⟨r, hr⟩ : ∃ r, L[k]? = some r := ⟨_, List.getElem?_eq_getElem (by omega)⟩
      obtain ⟨hfr, b, o, rfl, hcr⟩ := hL k r hr
      obtain ⟨hfx, b', o', e', hcx⟩ := hL i x hi
      obtain ⟨rfl, rfl⟩ : b = b' ∧ o = o' := by simpa using e'
      have hk3 : (k : Int) < L.length := by omega
      have ha := hfr.1
      have hb := hfx.1
      have q1 := range_d hcr
      have q2 := range_d hcx
      have c1 : (Tryd.prog.info? 39).map (·.size) = some (digV r.d).length := by rw [size39, digV_length, ha]
      have c2 : (Tryd.prog.info? 39).map (·.size) = some (digV x.d).length := by rw [size39, digV_length, hb]
      have C1 := Lib.hid c1
      have C2 := Lib.hid c2
      have Q1 := Lib.hid q1
      have Q2 := Lib.hid q2
      have HR := Lib.hid hr
      have HI := Lib.hid hi
      have HL := Lib.hid hL
      have HN := Lib.hid hno
      clear hr hi hL hno hcr hcx hfr hfx c1 c2 q1 q2
      go_wp2
      refine wp_region_quiet_lit (by kernel_rfl) (by kernel_rfl) ?_
      iterate 4 quiet_step (fail)
      refine wpQuiet_load_mid b _ _ _ rfl Tryd.underlying39 rfl C1.out (by rintro _ ⟨m, rfl⟩; exact Q1.out) ?_
      iterate 4 quiet_step (fail)
      refine wpQuiet_load_mid b _ _ _ rfl Tryd.underlying39 rfl C2.out (by rintro _ ⟨m, rfl⟩; exact Q2.out) ?_
      quiet_step (fail)
      refine wpQuiet_nil ?_
      rintro _ ⟨nq, rfl⟩
      have HA := Lib.hid ha
      have HB := Lib.hid hb
      clear ha hb
      generalize hq : (r.d == x.d) = q
      have HQ := Lib.hid hq
      clear hq
      cases q
      · go_wp2
        go_round
        case rel => exact ⟨k + 1, _, by omega, by go_num, by rw [hasD_take HR.out, HN.out, HQ.out]; rfl, rfl⟩
        case measure => simp [intOf]; omega
      · go_wp2
        go_ret
        have hik : k + 1 ≤ i := by omega
        refine ⟨ret_bool ?_, _, World.drewN_drewN _ _ _⟩
        exact (hasD_of HR.out (by omega) HQ.out).symm
    · obtain rfl : k = i := by omega
      have HN := Lib.hid hno
      clear hno hL hi
      go_wp2
      go_ret
      exact ⟨ret_bool HN.out.symm, _, rfl⟩
end Go.Proofs.YtolaecdopfmbgaaDoor
