/- What lies in variables, and what strconv.Atoi leaves. No condition. -/
import Derived.Lib.AtoiTie
import Derived.Lib.AtoiAllCases
import Derived.Lib.SmallJoins
import Derived.Test.YtjplfkcelkijfaaGreatDoorHxN
namespace Go.Proofs.YtjplfkcelkijfaaGreatDoor
open Go.RowKit
/-- what the call leans on: a table, two errors -/
def Env (w : World) : Prop := Pow w ∧ (∃ tp p, World.var? Tryz.prog w "strconv.ErrSyntax" = some #[.iface tp p]) ∧ ∃ tp p, World.var? Tryz.prog w "strconv.ErrRange" = some #[.iface tp p]
theorem named1 : ∃ g, Tryz.prog.globalNamed "strconv.ErrSyntax" = some g := Option.isSome_iff_exists.1 (by kernel_rfl)
theorem named2 : ∃ g, Tryz.prog.globalNamed "strconv.ErrRange" = some g := Option.isSome_iff_exists.1 (by kernel_rfl)
theorem var_below {w w' : World} {n : String} {cs : Array Value} (hn : ∃ g, Tryz.prog.globalNamed n = some g) (h : World.var? Tryz.prog w n = some cs) (hb : Below w.heap.size w w') : World.var? Tryz.prog w' n = some cs := by
  obtain ⟨g, hg⟩ := hn
  unfold World.var? at h ⊢
  rw [hg] at h ⊢
  simp only [Option.bind_some] at h ⊢
  have hlt : g < w.heap.size := by
    rcases Nat.lt_or_ge g w.heap.size with h' | h'
    · exact h'
    · simp [Array.getElem?_eq_none h'] at h
  rw [hb.block g hlt]; exact h
theorem Env.below {w w' : World} (h : Env w) (hb : Below w.heap.size w w') : Env w' := by
  obtain ⟨h1, ⟨t1, p1, h2⟩, ⟨t2, p2, h3⟩⟩ := h
  exact ⟨h1.below hb, ⟨t1, p1, var_below named1 h2 hb⟩, ⟨t2, p2, var_below named2 h3 hb⟩⟩
theorem below_atoi {w w1 : World} (h : w1 = w ∨ ∃ t, w1 = Lib.bytesWorld w 5 t) : Below w.heap.size w w1 := by
  rcases h with rfl | ⟨t, rfl⟩
  · exact Below.refl _ _
  · exact Lib.bytesWorld_below w 5 t
end Go.Proofs.YtjplfkcelkijfaaGreatDoor
