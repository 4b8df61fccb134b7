/- strconv.Itoa at every int. Condition: the table of powers lies. -/
import Derived.Deep.Cut
import Derived.Lib.ItoaNum
import Derived.Lib.ItoaMem
import Derived.Lib.ItoaLen
import Derived.Lib.LaidTab
import Derived.Lib.AppendIntMem
import Derived.Sort.Grow
import Derived.Test.YtjplfkcelkijfaaGreatDoorHxE
namespace Go.Proofs.YtjplfkcelkijfaaGreatDoor
open Go.RowKit
theorem below_drewN {B : Nat} {a w : World} (h : Below B a w) : ∀ n, Below B a (w.drewN n)
  | 0 => h
  | n + 1 => ⟨h.os, h.tape, h.output, h.size, h.block⟩
theorem wpList_load_dig {ops : Array Oper} {rest : List Oper} {a : Act} {w : World} {Q : Exit → Act → World → Prop} {d x : Tmp} {ty : TypeId} {pos : String} {after : Array Edge}
    (b o : Nat) (l : List UInt8) (hx : a.tmps.getD x undef = .pointer (some ⟨b, o, none⟩)) (hc : w.rangeAt b o (digV l)) (hf : l.length = 32)
    (h : wpList Tryz.prog ops Q rest (a.put (some d) (.agg (digV l).toArray)) w) :
    wpList Tryz.prog ops Q ({ dst := some d, op := .load 23 (.tmp x), type := ty, pos := pos, after := after, guard := none } :: rest) a w :=
  wpList_load_mid rfl 23 (.tmp x) rfl b o hx (digV l) _ hc Tryz.underlying23 rfl (by rw [size23, digV_length, hf]) h
def Pow (w : World) : Prop := Lib.TabIs Tryz.prog w "internal/strconv.uint64pow10" .u64 Lib.pow10Tab
theorem Pow.below {w w' : World} (h : Pow w) (hb : Below w.heap.size w w') : Pow w' := Lib.tabBelow_of_tabIs h w' hb
theorem below_grow (w : World) (k : Nat) (os : Array Obj) : Below w.heap.size w (Sort.grow (w.drewN k) os) := by
  have h := below_drewN (Below.refl w.heap.size w) k
  refine ⟨h.os, h.tape, h.output, by rw [Sort.size_grow]; exact Nat.le_trans h.size (Nat.le_add_right _ _), fun j hj => ?_⟩
  rw [Sort.heap_grow_old _ _ (Nat.lt_of_lt_of_le hj h.size)]
  exact h.block j hj
theorem itoa_calls (n : Int) (h0 : -9223372036854775808 ≤ n) (h1 : n ≤ 9223372036854775807) (w : World) (hp : Pow w) :
    Calls Tryz.prog 25 #[.int .i64 n] w fun e w' => e = .returned (.string ⟨(Lib.itoa n).toArray⟩) ∧ Below w.heap.size w w' := by
  refine (Tryz.strconv_Itoa n h0 h1 w hp).mono ?_
  rintro e w' ⟨rfl, k, os, rfl⟩
  exact ⟨rfl, below_grow w k os⟩
end Go.Proofs.YtjplfkcelkijfaaGreatDoor
