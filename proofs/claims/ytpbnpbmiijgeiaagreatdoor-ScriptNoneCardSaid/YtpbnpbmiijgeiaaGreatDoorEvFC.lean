/- An evaluator of the program's code: contracts of functions that read a row of bytes: which bytes a slice has. No condition. -/
import Derived.Test.YtpbnpbmiijgeiaaGreatDoorEvFB
import Derived.Lib.UnsafeStr
namespace Go.Proofs.YtpbnpbmiijgeiaaGreatDoor.Ev
open Go Go.RowKit

def CellsIn (w : World) (A : Option Addr) (cs : List Value) : Prop := ∀ k v, cs[k]? = some v → ∃ b o, A = some ⟨b, o, none⟩ ∧ w.cell? ⟨b, o + k, none⟩ = some v
theorem CellsIn.below {w w' : World} {A : Option Addr} {cs : List Value} (h : CellsIn w A cs) (hb : Below w.heap.size w w') : CellsIn w' A cs := fun k v hk => by
  obtain ⟨b, o, rfl, hc⟩ := h k v hk
  exact ⟨b, o, rfl, (hb.cell (p := ⟨b, o + k, none⟩) (World.block_lt_of_cell? _ _ hc)).trans hc⟩

def byteL : List Value → Option (List UInt8)
  | [] => some []
  | .int .u8 (.ofNat n) :: r => bif Nat.ble n 255 then (match byteL r with | some l => some (UInt8.ofNat n :: l) | none => none) else none
  | _ => none
theorem byteL_cells {μ : Mu} : ∀ (p p' : List Value) (l : List UInt8), VRs μ p p' → byteL p = some l → p' = Lib.byteCells l
  | [], p', l, hp, hs => by
    obtain rfl := hp.unnil
    simp only [byteL, Option.some.injEq] at hs
    subst hs
    rfl
  | x :: p, p', l, hp, hs => by
    obtain ⟨v', vs, rfl, h1, h2⟩ := hp.uncons
    unfold byteL at hs
    split at hs
    · rename_i heq; cases heq
    · rename_i n r heq
      cases heq
      cases hb : Nat.ble n 255 with
      | false => simp [hb] at hs
      | true =>
        simp only [hb, cond_true] at hs
        split at hs
        case h_2 => cases hs
        rename_i l' hl
        cases hs
        cases h1
        have := byteL_cells p vs l' h2 hl
        subst this
        have hn := ble.1 hb
        simp only [Lib.byteCells, List.map_cons, List.cons.injEq, and_true]
        have e : (UInt8.ofNat n).toNat = n := by rw [UInt8.toNat_ofNat']; exact Nat.mod_eq_of_lt (by omega)
        rw [e]
        rfl
    · cases hs

noncomputable def bytesAt (c : Ctx) (h : Mem) (v : Value) : Option (List UInt8) :=
  match v with
  | .slice none l _ => bif Nat.beq l 0 then some [] else none
  | .slice (some ⟨b, o, none⟩) len _ => bif Nat.beq len 0 then some [] else
    match cellsAt c h b with
    | some cs => match piece cs o len with
      | some p => byteL p
      | none => none
    | none => none
  | _ => none

theorem piece_length {cs p : List Value} {o k : Nat} (h : piece cs o k = some p) : p.length = k := by
  unfold piece at h
  simp only at h
  cases hb : Nat.beq ((cs.drop o).take k).length k with
  | false => rw [hb] at h; cases h
  | true =>
    simp only [hb, cond_true, Option.some.injEq] at h
    rw [← h]
    exact Tri.beq_true.1 hb

section
variable {P : Program} {w : World} {c : Ctx} {h : Mem} {w₀ : World} {N : Nat} {μ : Mu} {T : AMem}
theorem bytesAt_sound {v v' : Value} {l : List UInt8} (hw : WR w₀ N μ T w) (hv : View c h T) (hx : VR μ v v') (he : bytesAt c h v = some l) : ∃ A cap, v' = .slice A l.length cap ∧ CellsIn w A (Lib.byteCells l) := by
  have none0 : ∀ A, CellsIn w A (Lib.byteCells []) := fun A k v hk => by simp [Lib.byteCells] at hk
  unfold bytesAt at he
  split at he
  · rename_i len q
    cases hx with
    | nils =>
      cases he
      exact ⟨none, 0, rfl, none0 _⟩
  · rename_i b o len q
    have key : ∃ a cap', v' = .slice (some a) len cap' ∧ ∃ L, μ b = some L ∧ (len ≠ 0 → a = ⟨L.blk, L.off + o, none⟩) := by
      cases hx with
      | sl _ _ _ _ L a hL hl hc ha => exact ⟨a, _, rfl, L, hL, fun hne => ha (by omega)⟩
      | slo _ _ _ q u L a c' hL hl hc hu hb ha => exact ⟨a, _, rfl, L, hL, fun hne => (ha (by omega)).1⟩
    obtain ⟨a, cap', rfl, L, hL, haa⟩ := key
    cases hb : Nat.beq len 0 with
    | true =>
      simp only [hb, cond_true, Option.some.injEq] at he
      obtain rfl := Tri.beq_true.1 hb
      subst he
      exact ⟨_, _, rfl, none0 _⟩
    | false =>
      simp only [hb, cond_false] at he
      have := haa (beqF.1 hb)
      subst this
      split at he
      case h_2 => cases he
      rename_i cs hc
      split at he
      case h_2 => cases he
      rename_i p hp
      obtain ⟨p', q1, q2, q3⟩ := read_piece hw hv hL hc hp
      have := byteL_cells p p' l q1 he
      subst this
      have hlen : l.length = len := by
        have h1 := q1.1
        rw [piece_length hp, Lib.byteCells, List.length_map] at h1
        exact h1.symm
      subst hlen
      refine ⟨_, _, rfl, fun k v hk => ⟨L.blk, L.off + o, rfl, ?_⟩⟩
      have := q3 k v hk
      have hadd : (⟨L.blk, L.off + o, none⟩ : Addr).add k = ⟨L.blk, L.off + o + k, none⟩ := by unfold Addr.add; split <;> simp_all
      rwa [hadd] at this
  · cases he
end
end Go.Proofs.YtpbnpbmiijgeiaaGreatDoor.Ev
