/- The check sum of more bytes, in plain words. No condition. -/
import Derived.Test.YtpbnpbmiijgeiaaGreatDoorEvFC
import Derived.Test.YtpbnpbmiijgeiaaGreatDoorEvBt
import Derived.Deep.MidRow
import Derived.Deep.WholeRow
import Derived.Lib.Builder
namespace Go.Proofs.YtpbnpbmiijgeiaaGreatDoor.Ev
open Go Go.RowKit

def crcTab : List Nat := [0, 274646895, 549293790, 820201905, 1098587580, 1361435347, 1640403810, 1905808397, 2197175160, 2460548119, 2722870694, 2987750089, 3280807620, 3553878443, 3811616794, 4084100981]
def crcCells : List Value := crcTab.map fun n => Value.int .u32 (Int.ofNat n)
noncomputable def valR (r : R) : Option Value := match r with | some (v, _, _) => some v | none => none
theorem valR_some {r : R} {v : Value} (h : valR r = some v) : ∃ h' n', r = some (v, h', n') := by
  unfold valR at h
  split at h
  · rename_i u h1 n1
    cases h
    exact ⟨h1, n1, rfl⟩
  · cases h
def noCon : CallT := fun _ _ _ _ _ => none
theorem noCon_keeps : CallKp noCon := fun _ _ _ _ _ _ _ _ h => by cases h
theorem noCon_ok {P : Program} : CallOK P noCon := fun _ _ _ _ _ _ _ _ h => by cases h
def tabN (i : Nat) : Nat := crcTab.getD i 0
def crcStep (x c : Nat) : Nat := Nat.xor (Nat.div (Nat.xor (Nat.div x 16) (tabN (Nat.mod (Nat.xor x c) 16))) 16) (tabN (Nat.mod (Nat.xor (Nat.xor (Nat.div x 16) (tabN (Nat.mod (Nat.xor x c) 16))) (Nat.div c 16)) 16))
def crcFold : List UInt8 → Nat → Nat
  | [], x => x
  | c :: r, x => crcFold r (crcStep x c.toNat)
def crcMore (s : Nat) (l : List UInt8) : Nat := Nat.sub 4294967295 (crcFold l (Nat.sub 4294967295 s))

theorem rangeAt_new (w : World) (cs : List Value) (t : TypeId) : (w.alloc (.cells cs.toArray t)).rangeAt w.heap.size 0 cs := fun j v hv => by
  rw [Nat.zero_add, Lib.cell_of_heap (heap_alloc_new w _)]
  simpa using hv
theorem crcFold_take (x : Nat) : ∀ (l : List UInt8) (k : Nat) (c : UInt8), l[k]? = some c → crcFold (l.take (k + 1)) x = crcStep (crcFold (l.take k) x) c.toNat
  | [], k, c, h => by simp at h
  | a :: r, 0, c, h => by simp at h; subst h; rfl
  | a :: r, k + 1, c, h => by
    have := crcFold_take (crcStep x a.toNat) r k c (by simpa using h)
    simpa [crcFold] using this

theorem tabN_lt (i : Nat) (h : i < 16) : tabN i < 4294967296 := by
  have : ∀ i : Fin 16, tabN i.val < 4294967296 := by decide
  exact this ⟨i, h⟩
theorem crcCells_at (i : Nat) (h : i < 16) : crcCells[i]? = some (.int .u32 (tabN i : Nat)) := by
  have : ∀ i : Fin 16, (crcTab[i.val]?).isSome = true := by decide
  have h1 := this ⟨i, h⟩
  rw [Option.isSome_iff_exists] at h1
  obtain ⟨n, hn⟩ := h1
  simp only at hn
  rw [crcCells, List.getElem?_map, hn, tabN, List.getD_eq_getElem?_getD, hn]
  rfl
def half (x c : Nat) : Nat := Nat.xor (Nat.div x 16) (tabN (Nat.mod (Nat.xor x c) 16))
theorem half_lt (x c : Nat) (h : x < 4294967296) : half x c < 4294967296 := nat_xor_lt 32 _ _ (by show x / 16 < _; omega) (tabN_lt _ (Nat.mod_lt _ (by decide)))
theorem crcStep_half (x c : Nat) : crcStep x c = half (half x c) (c / 16) := rfl
theorem crcFold_lt : ∀ (l : List UInt8) (x : Nat), x < 4294967296 → crcFold l x < 4294967296
  | [], x, h => h
  | c :: r, x, h => crcFold_lt r _ (half_lt _ _ (half_lt _ _ h))
/-- which place of the table is looked at -/
theorem place8 (x c : Nat) (hc : c < 256) : bits BinOp.xor IntKind.u8 (bits BinOp.and IntKind.u8 ((x : Int) % 256) 15) (bits BinOp.and IntKind.u8 (c : Int) 15) = ((Nat.mod (Nat.xor x c) 16 : Nat) : Int) := by
  have e : (x : Int) % 256 = ((x % 256 : Nat) : Int) := by omega
  rw [e, bits_and15 _ (by omega), bits_and15 _ hc, bits_xor8 _ _ (by omega) (by omega)]
  have := xor_mod16 x c
  rw [show x % 256 % 16 = x % 16 by omega, ← this]
  rfl
theorem place8h (x c : Nat) (hc : c < 256) : bits BinOp.xor IntKind.u8 (bits BinOp.and IntKind.u8 ((x : Int) % 256) 15) ((c : Int) / 16) = ((Nat.mod (Nat.xor x (c / 16)) 16 : Nat) : Int) := by
  have e : (x : Int) % 256 = ((x % 256 : Nat) : Int) := by omega
  rw [e, bits_and15 _ (by omega), show (c : Int) / 16 = ((c / 16 : Nat) : Int) by omega, bits_xor8 _ _ (by omega) (by omega)]
  have := xor_mod16 x (c / 16)
  rw [show x % 256 % 16 = x % 16 by omega]
  rw [show (c / 16) % 16 = c / 16 by omega] at this
  rw [← this]
  rfl
theorem step32 (x n : Nat) (hx : x < 4294967296) (hn : n < 16) : bits BinOp.xor IntKind.u32 ((x : Int) / 16) (tabN n : Nat) = ((Nat.xor (Nat.div x 16) (tabN n) : Nat) : Int) := by
  rw [show (x : Int) / 16 = ((x / 16 : Nat) : Int) by omega, bits_xor32 _ _ (by omega) (tabN_lt _ hn)]
  rfl

theorem place8' (x c : Nat) (hc : c < 256) : bits BinOp.xor IntKind.u8 ((x : Int) % 16) ((c : Int) % 16) = ((Nat.mod (Nat.xor x c) 16 : Nat) : Int) := by
  have e : (x : Int) % 16 = ((x % 16 : Nat) : Int) := by omega
  have e2 : (c : Int) % 16 = ((c % 16 : Nat) : Int) := by omega
  rw [e, e2, bits_xor8 _ _ (by omega) (by omega), ← xor_mod16 x c]
  rfl
theorem place8h' (x c : Nat) (hc : c < 256) : bits BinOp.xor IntKind.u8 ((x : Int) % 16) ((c : Int) / 16) = ((Nat.mod (Nat.xor x (c / 16)) 16 : Nat) : Int) := by
  have h := place8' x (c / 16) (by omega)
  rw [← h]
  congr 1
  omega

/-- crc.More's contract, as the evaluator takes it -/
noncomputable def conCrc (F : FuncId) : CallT := fun c g args h n =>
  bif Nat.beq g F then (match args with
    | [.int .u32 (.ofNat s), v] => bif Nat.ble s 4294967295 then (match bytesAt c h v with
      | some l => bif Nat.ble l.length 1048576 then some (.int .u32 (.ofNat (crcMore s l)), h, n) else none
      | none => none) else none
    | _ => none) else none
theorem conCrc_inv {F : FuncId} {c : Ctx} {g : FuncId} {args : List Value} {h h' : Mem} {n n' : Nat} {r : Value} (he : conCrc F c g args h n = some (r, h', n')) :
    g = F ∧ h' = h ∧ n' = n ∧ ∃ (s : Nat) (v : Value) (l : List UInt8), args = [.int .u32 (.ofNat s), v] ∧ s < 4294967296 ∧ bytesAt c h v = some l ∧ l.length ≤ 1048576 ∧ r = .int .u32 (.ofNat (crcMore s l)) := by
  unfold conCrc at he
  cases hg : Nat.beq g F with
  | false => rw [hg] at he; cases he
  | true =>
    rw [hg, cond_true] at he
    split at he
    case h_2 => cases he
    rename_i s v
    cases hs : Nat.ble s 4294967295 with
    | false => rw [hs] at he; cases he
    | true =>
      rw [hs, cond_true] at he
      split at he
      case h_2 => cases he
      rename_i l hl
      cases hk : Nat.ble l.length 1048576 with
      | false => rw [hk] at he; cases he
      | true =>
        rw [hk, cond_true] at he
        cases he
        exact ⟨Tri.beq_true.1 hg, rfl, rfl, s, v, l, rfl, Nat.lt_succ_of_le (ble.1 hs), hl, ble.1 hk, rfl⟩
theorem conCrc_keeps (F : FuncId) : CallKp (conCrc F) := by
  intro c g args h n r h' n' he
  obtain ⟨_, rfl, rfl, _⟩ := conCrc_inv he
  exact Kp.refl
theorem conCrc_ok {P : Program} {F : FuncId} (hmore : ∀ (A : Option Addr) (cap : Nat) (l : List UInt8) (s : Nat) (w : World), l.length ≤ 1048576 → s < 4294967296 → CellsIn w A (Lib.byteCells l) →
    Calls P F #[.int .u32 s, .slice A l.length cap] w fun e w' => e = .returned (.int .u32 (crcMore s l)) ∧ Below w.heap.size w w') : CallOK P (conCrc F) := by
  intro c g args h n r h' n' he w₀ N μ T w args' hw hv hf hargs
  obtain ⟨rfl, rfl, rfl, s, v, l, rfl, hs, hl, hk, rfl⟩ := conCrc_inv he
  obtain ⟨a1, r1, rfl, g1, g2⟩ := hargs.uncons
  obtain ⟨a2, r2, rfl, g3, g4⟩ := g2.uncons
  obtain rfl := g4.unnil
  cases g1
  obtain ⟨A, cap, rfl, hA⟩ := bytesAt_sound hw hv g3 hl
  refine (hmore A cap l s w hk hs hA).mono ?_
  rintro e w' ⟨rfl, hb⟩
  exact ⟨_, μ, T, rfl, Post.refl (hw.later hb) hv, .int _ _⟩
end Go.Proofs.YtpbnpbmiijgeiaaGreatDoor.Ev
