/- glob.match tells whether parts stand for a text, for at most 64 parts and texts of at most 140737488351232 bytes. -/
import Derived.WalkMore
import Derived.Deep.LoopGhost
import Derived.ScopeJumps
import Derived.Test.YtolaecdopfmbgaaDoorGlM
namespace Go.Proofs.YtolaecdopfmbgaaDoor.Gl
open Go.RowKit

/-- parts lie one behind the other from a place on -/
def PartsIn (w : World) (a : Option Addr) (l : List PY) : Prop :=
  ∀ k x, l[k]? = some x → ∃ g, a = some ⟨g, 0, none⟩ ∧ w.cell? ⟨g, k * 257, none⟩ = some (.bool x.m) ∧ ∀ j, j < 256 → w.cell? ⟨g, k * 257 + 1 + j, none⟩ = some (.bool (x.f j))

set_option maxHeartbeats 1000000 in
set_option maxRecDepth 100000 in
theorem match_calls (l : List PY) (a : Option Addr) (cap : Nat) (s : ByteArray) (w : World) (hs : s.size ≤ 140737488355328) (hl : l.length ≤ 64) (hp : PartsIn w a l) :
    Calls Tryd.prog 99 #[.slice a l.length cap, .string s] w fun e w' => e = .returned (.bool (M l s.data.toList)) ∧ ∃ n, w' = w.drewN n := by
  have hlen : s.data.toList.length = s.size := by simp
  have HL := Lib.hid hlen
  have HP := Lib.hid hp
  have HLN := Lib.hid hl
  clear hlen hp
  have hl' : (l.length : Int) ≤ 64 := by omega
  clear hl
  go_enter Tryd.func99, Tryd.ntmps99
  go_wp2
  go_step3
  go_wp2
  go_step3
  go_wp2
  go_loopg [5, 6, 7, 8] (s.size * (l.length + 1) + l.length) (fun g v5 v6 v7 v8 wr => ∃ (p i back : Nat) (star : Int), g = (s.size - back) * (l.length + 1) + (l.length - p) ∧ v5 = .int .i64 p ∧ v6 = .int .i64 i ∧ v7 = .int .i64 star ∧ v8 = .int .i64 back ∧ Greedy l s.data.toList p i star back ∧ ∃ n, wr = w.drewN n)
  case atStart => exact ⟨0, 0, 0, -1, by simp, rfl, rfl, rfl, rfl, Greedy.start _ _, 0, rfl⟩
  case round =>
    obtain ⟨p, i, back, star, rfl, rfl, rfl, rfl, rfl, hG, n, rfl⟩ := hrel
    have g1 := hG.hp
    have g2 := hG.hi
    have g3 := hG.hb
    have g4 := hG.low
    have g5 := hG.high
    rw [HL.out] at g2
    have HG := Lib.hid hG
    clear hG
    by_cases hi : i < s.size
    · have hc : s.data.toList[i]? = some s[i] := by rw [List.getElem?_eq_getElem (by rw [HL.out]; exact hi)]; rfl
      have HC := Lib.hid hc
      clear hc
      by_cases hp : p < l.length
      · obtain ⟨x, hx⟩ : ∃ x, l[p]? = some x := ⟨_, List.getElem?_eq_getElem hp⟩
        obtain ⟨g, rfl, c1, c2⟩ := HP.out p x hx
        have HX := Lib.hid hx
        clear hx
        cases hm : x.m
        · rw [hm] at c1
          have c3 := c2 s[i].toNat s[i].toNat_lt
          have HM := Lib.hid hm
          clear hm c2
          cases hf : x.f s[i].toNat
          · rw [hf] at c3
            have hno : ∀ y, l[p]? = some y → y.m = false ∧ y.f s[i].toNat = false := fun y hy => by
              have := HX.out; rw [hy] at this; cases this; exact ⟨HM.out, hf⟩
            have HNO := Lib.hid hno
            clear hno hf
            by_cases hst : star < 0
            · have hfin : M l s.data.toList = false := HG.out.fails hst HC.out HNO.out
              have HFIN := Lib.hid hfin
              clear hfin
              go_wp2_with fail
              have hb0 : (0 : Int) ≤ s[i].toNat := by omega
              have hb1 : (s[i].toNat : Int) < 256 := by have := s[i].toNat_lt; omega
              go_quiet (fail)
              clear hb0 hb1
              go_wp2
              try rw [Exit.noGoto_ret]
              go_ret
              exact ⟨ret_bool HFIN.out.symm, _, rfl⟩
            · obtain ⟨st, rfl⟩ := Int.eq_ofNat_of_zero_le (Int.not_lt.1 hst)
              have hst' : ¬ (st : Int) < 0 := by omega
              go_wp2_with fail
              have hb0 : (0 : Int) ≤ s[i].toNat := by omega
              have hb1 : (s[i].toNat : Int) < 256 := by have := s[i].toNat_lt; omega
              go_quiet (fail)
              clear hb0 hb1
              go_wp2
              go_roundg ((s.size - (back + 1)) * (l.length + 1) + (l.length - (st + 1)))
              case measure =>
                have := Nat.mul_le_mul_right (l.length + 1) (show s.size - (back + 1) + 1 ≤ s.size - back by omega)
                rw [Nat.add_mul] at this
                omega
              case rel =>
                exact ⟨st + 1, back + 1, back + 1, st, rfl, by go_num, by go_num, rfl, by go_num, HG.out.again rfl HC.out HNO.out, _, rfl⟩
          · rw [hf] at c3
            have HF := Lib.hid hf
            clear hf
            go_wp2_with fail
            have hb0 : (0 : Int) ≤ s[i].toNat := by omega
            have hb1 : (s[i].toNat : Int) < 256 := by have := s[i].toNat_lt; omega
            go_quiet (fail)
            clear hb0 hb1
            go_wp2
            go_roundg ((s.size - back) * (l.length + 1) + (l.length - (p + 1)))
            case measure => omega
            case rel =>
              exact ⟨p + 1, i + 1, back, star, rfl, by go_num, by go_num, rfl, rfl, HG.out.one HC.out HX.out HM.out HF.out, n + nq, rfl⟩
        · rw [hm] at c1
          have HM := Lib.hid hm
          clear hm c2
          go_wp2
          go_roundg ((s.size - i) * (l.length + 1) + (l.length - (p + 1)))
          case measure =>
            have := Nat.mul_le_mul_right (l.length + 1) (show s.size - i ≤ s.size - back by omega)
            omega
          case rel =>
            exact ⟨p + 1, i, i, p, rfl, by go_num, rfl, rfl, rfl, HG.out.many (by rw [HL.out]; exact hi) HX.out HM.out, n, rfl⟩
      · have hno : ∀ y, l[p]? = some y → y.m = false ∧ y.f s[i].toNat = false := fun y hy => by
          rw [List.getElem?_eq_none (by omega)] at hy; cases hy
        have HNO := Lib.hid hno
        have hp' : ¬ (p : Int) < l.length := by omega
        clear hno
        by_cases hst : star < 0
        · have hfin : M l s.data.toList = false := HG.out.fails hst HC.out HNO.out
          have HFIN := Lib.hid hfin
          clear hfin
          go_wp2_with fail
          go_quiet (fail)
          go_wp2
          try rw [Exit.noGoto_ret]
          go_ret
          exact ⟨ret_bool HFIN.out.symm, _, rfl⟩
        · obtain ⟨st, rfl⟩ := Int.eq_ofNat_of_zero_le (Int.not_lt.1 hst)
          have hst' : ¬ (st : Int) < 0 := by omega
          go_wp2_with fail
          go_quiet (fail)
          go_wp2
          go_roundg ((s.size - (back + 1)) * (l.length + 1) + (l.length - (st + 1)))
          case measure =>
            have := Nat.mul_le_mul_right (l.length + 1) (show s.size - (back + 1) + 1 ≤ s.size - back by omega)
            rw [Nat.add_mul] at this
            omega
          case rel =>
            exact ⟨st + 1, back + 1, back + 1, st, rfl, by go_num, by go_num, rfl, by go_num, HG.out.again rfl HC.out HNO.out, _, rfl⟩
    · obtain rfl : i = s.size := by omega
      have hfin := HG.out.done (by rw [HL.out])
      have HFIN := Lib.hid hfin
      clear hfin
      go_wp2
      go_loopg [5] (l.length - p) (fun g v5 wr => ∃ p : Nat, g = l.length - p ∧ p ≤ l.length ∧ v5 = .int .i64 p ∧ Hid (M l s.data.toList = (l.drop p).all (·.m)) ∧ ∃ n, wr = w.drewN n)
      case atStart => exact ⟨p, rfl, g1, rfl, HFIN.out, n, rfl⟩
      case round =>
        obtain ⟨q, rfl, hq, rfl, HQ, n2, rfl⟩ := hrel
        by_cases hp : q < l.length
        · obtain ⟨x, hx⟩ : ∃ x, l[q]? = some x := ⟨_, List.getElem?_eq_getElem hp⟩
          obtain ⟨g, rfl, c1, c2⟩ := HP.out q x hx
          have HX := Lib.hid hx
          clear hx c2
          cases hm : x.m
          · rw [hm] at c1
            have hfin : M l s.data.toList = false := by rw [HQ.out, drop_at HX.out, List.all_cons, hm, Bool.false_and]
            have HFIN := Lib.hid hfin
            have hne : ¬ (q : Int) = l.length := by omega
            clear hm hfin
            go_wp2
            try rw [Exit.noGoto_ret]
            go_ret
            exact ⟨ret_bool (by rw [HFIN.out]; simp; omega), _, rfl⟩
          · rw [hm] at c1
            have hfin : M l s.data.toList = (l.drop (q + 1)).all (·.m) := by rw [HQ.out, drop_at HX.out, List.all_cons, hm, Bool.true_and]
            have HFIN := Lib.hid hfin
            clear hm hfin
            go_wp2
            go_roundg (l.length - (q + 1))
            case measure => omega
            case rel => exact ⟨q + 1, rfl, by omega, by go_num, HFIN.out, _, rfl⟩
        · obtain rfl : q = l.length := by omega
          have hfin : M l s.data.toList = true := by rw [HQ.out, List.drop_length]; rfl
          have HFIN := Lib.hid hfin
          clear hfin
          go_wp2
          try rw [Exit.noGoto_ret]
          go_ret
          exact ⟨ret_bool (by rw [HFIN.out]), _, rfl⟩
end Go.Proofs.YtolaecdopfmbgaaDoor.Gl
