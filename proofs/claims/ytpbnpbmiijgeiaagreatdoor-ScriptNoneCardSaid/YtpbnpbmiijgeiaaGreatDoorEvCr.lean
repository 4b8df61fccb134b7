/- crc.More, walked. Condition: at most 1048576 bytes. -/
import Derived.Test.YtpbnpbmiijgeiaaGreatDoorEvFD
import Derived.Test.YtpbnpbmiijgeiaaGreatDoorProg
import Derived.WalkKit
import Derived.WalkSpells
import Derived.Deep.MidRow
import Derived.Deep.WholeRow
import Derived.Lib.VarintBits
import Derived.Lib.Builder
import Derived.Lib.Hide
import Derived.Sort.WalkA
namespace Go.Proofs.YtpbnpbmiijgeiaaGreatDoor.Ev
open Go Go.RowKit
theorem nib_eval : valR (fCall noCon Tryz.prog 20 ⟨0, []⟩ 493 [] .leaf GLIM) = some (.agg crcCells.toArray) := by kernel_rfl
theorem nib_calls (w : World) : Calls Tryz.prog 493 #[] w fun e w' => e = .returned (.agg crcCells.toArray) ∧ Below w.heap.size w w' := by
  obtain ⟨h', n', he⟩ := valR_some nib_eval
  exact fast_closed (by kernel_rfl) noCon_keeps noCon_ok (by kernel_rfl) he w
set_option maxHeartbeats 400000 in
set_option maxRecDepth 100000 in
theorem more_calls (A : Option Addr) (cap : Nat) (l : List UInt8) (s : Nat) (w : World) (hl : l.length ≤ 1048576) (hs : s < 4294967296) (hA : CellsIn w A (Lib.byteCells l)) :
    Calls Tryz.prog 427 #[.int .u32 s, .slice A l.length cap] w fun e w' => e = .returned (.int .u32 (crcMore s l)) ∧ Below w.heap.size w w' := by
  have hl' : (l.length : Int) ≤ 1048576 := by omega
  clear hl
  go_enter Tryz.func427, Tryz.ntmps427
  have ST : ∀ W : World, (storeCells ⟨W.heap.size, 0, none⟩ crcCells).run Tryz.prog (W.alloc (.cells (Array.replicate 16 (.int .u32 0)) 564)) = .ok () (W.alloc (.cells crcCells.toArray 564)) := fun W =>
    run_storeCells_new W 564 (Array.replicate 16 (.int .u32 0)) crcCells.toArray (by kernel_rfl) rfl (by decide +kernel)
  simp only [show Array.replicate 16 (Value.int .u32 0) = #[.int .u32 0, .int .u32 0, .int .u32 0, .int .u32 0, .int .u32 0, .int .u32 0, .int .u32 0, .int .u32 0, .int .u32 0, .int .u32 0, .int .u32 0, .int .u32 0, .int .u32 0, .int .u32 0, .int .u32 0, .int .u32 0] from rfl] at ST
  have SG : IntKind.signed .u32 = false := rfl
  have BX : ∀ s : Nat, s < 4294967296 → bits BinOp.xor IntKind.u32 IntKind.u32.max (s : Int) = ((4294967295 - s : Nat) : Int) := by
    intro s hs
    have := bits_xor32 4294967295 s (by decide) hs
    rw [xor_max32 s hs] at this
    exact this
  have BX1 := BX s hs
  have hx0 : RowKit.Hid (4294967295 - s < 4294967296) := Lib.hid (by omega)
  have BXH := Lib.hid BX
  clear BX
  have hxe : RowKit.Hid (∀ l, crcMore s l = Nat.sub 4294967295 (crcFold l (4294967295 - s))) := Lib.hid fun _ => rfl
  generalize 4294967295 - s = x0 at BX1 hx0 hxe
  clear hs
  go_wp2_with (go_at_call 493; refine (nib_calls _).mono ?_; rintro e w1 ⟨rfl, h1⟩)
  have hT := rangeAt_new w1 crcCells 564
  have hb2 : Below w.heap.size w (w1.alloc (.cells crcCells.toArray 564)) := h1.alloc h1.size _
  have hA2 := hA.below hb2
  clear ST hA
  generalize w1.alloc (.cells crcCells.toArray 564) = w2 at hT hb2 hA2
  generalize w1.heap.size = tb at hT
  go_loopw [6, 14] (fun c6 c14 wr => ∃ k : Nat, (k : Int) ≤ l.length ∧ c14 = .int .i64 k ∧ c6 = .int .u32 (crcFold (l.take k) x0 : Nat) ∧ wr = w2) (fun _ c _ => l.length - (Go.RowKit.intOf c).toNat)
  case atStart => exact ⟨0, by omega, rfl, rfl, rfl⟩
  case round =>
    obtain ⟨k, hk, rfl, rfl, rfl⟩ := hrel
    have hx := Lib.hid (crcFold_lt (l.take k) x0 hx0.out)
    by_cases hlt : (k : Int) < l.length
    · obtain ⟨c, hc⟩ : ∃ c, l[k]? = some c := ⟨_, List.getElem?_eq_getElem (by omega)⟩
      obtain ⟨b, o, rfl, hcell⟩ := hA2 k (.int .u8 c.toNat) (by rw [Lib.byteCells, List.getElem?_map, hc]; rfl)
      have hc1 := Lib.hid (show c.toNat < 256 from c.toNat_lt)
      have HF := Lib.hid (crcFold_take x0 l k c hc)
      have hcI : 0 ≤ (c.toNat : Int) ∧ (c.toNat : Int) < 256 := by have := c.toNat_lt; omega
      clear hc
      generalize crcFold (l.take k) x0 = x at hx HF
      generalize c.toNat = n at hc1 HF hcell hcI
      have P1 := place8' x n hc1.out
      have hp1 : Nat.mod (Nat.xor x n) 16 < 16 := Nat.mod_lt _ (by decide)
      have S1 := step32 x _ hx.out hp1
      have hT1 := hT _ _ (crcCells_at _ hp1)
      have hy := Lib.hid (half_lt x n hx.out)
      have HE : half x n = Nat.xor (Nat.div x 16) (tabN (Nat.mod (Nat.xor x n) 16)) := rfl
      rw [← HE] at S1
      clear HE
      have P2 := place8h' (half x n) n hc1.out
      have hp2 : Nat.mod (Nat.xor (half x n) (n / 16)) 16 < 16 := Nat.mod_lt _ (by decide)
      have S2 := step32 (half x n) _ hy.out hp2
      have hT2 := hT _ _ (crcCells_at _ hp2)
      have HE : crcStep x n = Nat.xor (Nat.div (half x n) 16) (tabN (Nat.mod (Nat.xor (half x n) (n / 16)) 16)) := rfl
      rw [← HE] at S2
      clear HE hx hc1
      have hp1' : ((Nat.mod (Nat.xor x n) 16 : Nat) : Int) < 16 := by omega
      have hp2' : ((Nat.mod (Nat.xor (half x n) (n / 16)) 16 : Nat) : Int) < 16 := by omega
      clear hp1 hp2
      generalize Nat.mod (Nat.xor x n) 16 = p1 at P1 S1 hT1 hp1'
      generalize Nat.mod (Nat.xor (half x n) (n / 16)) 16 = p2 at P2 S2 hT2 hp2'
      generalize half x n = y at S1 P2 S2 hy
      generalize tabN p1 = t1 at S1 hT1
      generalize tabN p2 = t2 at S2 hT2
      generalize crcStep x n = z at S2 HF
      rw [Nat.zero_add] at hT1 hT2
      go_wp2
      go_roundw
      case rel => exact ⟨k + 1, by omega, by go_num, by rw [HF.out]; exact ⟨rfl, trivial⟩⟩
      case measure => simp [Go.RowKit.intOf]; omega
    · obtain rfl : k = l.length := by omega
      rw [List.take_length] at hx ⊢
      have BX2 := BXH.out _ hx.out
      have HX := Lib.hid (hxe.out l)
      clear hx hxe BXH
      generalize crcFold l x0 = x at BX2 HX
      have HX2 : crcMore s l = 4294967295 - x := HX.out
      rw [← HX2] at BX2
      go_wp2
      go_ret
      exact ⟨rfl, hb2⟩
end Go.Proofs.YtpbnpbmiijgeiaaGreatDoor.Ev
