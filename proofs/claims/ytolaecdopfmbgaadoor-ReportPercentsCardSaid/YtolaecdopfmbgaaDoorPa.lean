/- strings.Cut at a separator of one byte: for every text of at most 140737488351232 bytes. -/
import Derived.Lib.CutLaws
import Derived.Test.YtolaecdopfmbgaaDoorP
namespace Go.Proofs.YtolaecdopfmbgaaDoor
open Go.RowKit

theorem stringslite_cut1 (s : ByteArray) (c : UInt8) (w : World) (hs : s.size ≤ 140737488351232) :
    Calls Tryd.prog 80 #[.string s, .string ⟨#[c]⟩] w fun e w' => e = .returned (.tuple #[.string ⟨(Lib.cut s.data.toList [c]).1.toArray⟩, .string ⟨(Lib.cut s.data.toList [c]).2.1.toArray⟩, .bool (Lib.cut s.data.toList [c]).2.2]) ∧ ∃ n, w' = w.drewN n := by
  have hi := fun w => Tryd.stringslite_Index_one s c w
  rw [← Lib.index_one] at hi
  have hsz : ((⟨#[c]⟩ : ByteArray).size : Int) = 1 := rfl
  have hs' : (s.size : Int) ≤ 140737488351232 := by omega
  rcases Lib.indexB_cases s ⟨#[c]⟩ with hix | ⟨i, hix, hroom⟩
  · obtain ⟨e1, e2, e3⟩ := Lib.cutB_miss s ⟨#[c]⟩ hix
    simp only at e1 e2 e3
    rw [e1, e2, e3]
    rw [show Lib.index s.data.toList [c] = -1 from hix] at hi
    have HI := Lib.hid hi
    clear hi e1 e2 e3 hix hs
    go_enter Tryd.func80, Tryd.ntmps80
    go_wp2_with (go_at_call 115; refine (HI.out _).mono ?_; rintro e w' ⟨rfl, rfl⟩)
    go_ret3
    exact ⟨rfl, 0, rfl⟩
  · obtain ⟨e1, e2, e3⟩ := Lib.cutB_hit s ⟨#[c]⟩ i hix
    simp only at e1 e2 e3
    rw [e1, e2, e3]
    rw [show Lib.index s.data.toList [c] = i from hix] at hi
    have hroom' : i + 1 ≤ s.size := hroom
    have c1 : (0 : Int) ≤ ↑i := by omega
    have c2 : (↑i : Int) ≤ ↑s.size := by omega
    have c3 : (0 : Int) ≤ ↑i + 1 := by omega
    have c4 : (↑i + 1 : Int) ≤ ↑s.size := by omega
    have HI := Lib.hid hi
    clear hi e1 e2 e3 hix hs hroom hroom'
    go_enter Tryd.func80, Tryd.ntmps80
    go_wp2_with (go_at_call 115; refine (HI.out _).mono ?_; rintro e w' ⟨rfl, rfl⟩)
    go_region
    go_wp2
    go_ret3
    exact ⟨rfl, 1, rfl⟩
theorem cut_calls (l : List UInt8) (c : UInt8) (w : World) (h : l.length ≤ 140737488351232) :
    Calls Tryd.prog 54 #[.string ⟨l.toArray⟩, .string ⟨#[c]⟩] w fun e w' => e = .returned (.tuple #[.string ⟨(Lib.cut l [c]).1.toArray⟩, .string ⟨(Lib.cut l [c]).2.1.toArray⟩, .bool (Lib.cut l [c]).2.2]) ∧ ∃ n, w' = w.drewN n := by
  have hc := fun w => stringslite_cut1 ⟨l.toArray⟩ c w (by show l.toArray.size ≤ _; simpa using h)
  simp only at hc
  have HC := Lib.hid hc
  clear hc h
  go_enter Tryd.func54, Tryd.ntmps54
  go_wp2_with (go_at_call 80; refine (HC.out _).mono ?_; rintro e w' ⟨rfl, n, rfl⟩)
  go_ret3
  exact ⟨rfl, n, rfl⟩
end Go.Proofs.YtolaecdopfmbgaaDoor
