/- An evaluator of the program's code, eighth part: append. No condition. -/
import Derived.Test.YtpbnpbmiijgeiaaGreatDoorEvG
import Derived.Laws.Append
namespace Go.Proofs.YtpbnpbmiijgeiaaGreatDoor.Ev
open Go Go.RowKit

section
variable {P : Program} {w : World}

theorem beqF {a b : Nat} : Nat.beq a b = false ↔ a ≠ b := by
  constructor
  · rintro h rfl; rw [Nat.beq_refl] at h; cases h
  · intro h
    cases hb : Nat.beq a b with
    | false => rfl
    | true => exact absurd (Tri.beq_true.1 hb) h

theorem VRs.bytes (μ : Mu) (l : List UInt8) : VRs μ (l.map fun b => Value.int .u8 b.toNat) (l.map fun b => Value.int .u8 b.toNat) := by
  induction l with
  | nil => exact VRs.nil
  | cons b l ih => exact VRs.cons (.int _ _) ih

theorem newsOf_sound {c : Ctx} {h : Mem} {w₀ : World} {N : Nat} {μ : Mu} {T : AMem} {x x' : Value} {s m : Nat} {news : List Value} (hw : WR w₀ N μ T w) (hv : View c h T) (hx : VR μ x x') (he : newsOf c h s x = some (m, news)) :
    ∃ news', (∀ w₁, (Builtin.lenOf x').run P w₁ = .ok m w₁) ∧ (∀ w₁ : World, w₁.heap = w.heap → (Builtin.firstCells s m x').run P w₁ = .ok news'.toArray w₁) ∧ VRs μ news news' ∧ news.length = m * s := by
  unfold newsOf at he
  split at he
  · rename_i l k
    cases hb : Nat.beq l 0 with
    | false => simp [hb] at he
    | true =>
    simp only [hb, cond_true, Option.some.injEq, Prod.mk.injEq] at he
    obtain ⟨rfl, rfl⟩ := he
    cases hx
    exact ⟨[], fun w₁ => by simp [Builtin.lenOf], fun w₁ hh => by simp [Builtin.firstCells], VRs.nil, by simp⟩
  · rename_i b o m' k
    have hlen : ∃ a k', x' = .slice (some a) m' k' ∧ ∀ L, μ b = some L → m' ≠ 0 → a = ⟨L.blk, L.off + o, none⟩ := by
      cases hx with
      | sl _ _ _ _ L a hL hl hc ha => exact ⟨a, _, rfl, fun L' hL' hne => by rw [hL] at hL'; cases hL'; exact ha (by omega)⟩
      | slo _ _ _ q u L a c' hL hl hc hu hb ha => exact ⟨a, _, rfl, fun L' hL' hne => by rw [hL] at hL'; cases hL'; exact (ha (by omega)).1⟩
    obtain ⟨a, k', rfl, haa⟩ := hlen
    cases hb : Nat.beq m' 0 with
    | true =>
      simp only [hb, cond_true, Option.some.injEq, Prod.mk.injEq] at he
      obtain ⟨rfl, rfl⟩ := he
      have := Tri.beq_true.1 hb
      subst this
      exact ⟨[], fun w₁ => by simp [Builtin.lenOf], fun w₁ hh => by simp [Builtin.firstCells, loadCells, loadCellsFrom], VRs.nil, by simp⟩
    | false =>
      simp only [hb, cond_false] at he
      split at he
      case h_2 => cases he
      rename_i cs hc
      obtain ⟨p, hp, hpe⟩ := Option.map_eq_some_iff.1 he
      simp only [Prod.mk.injEq] at hpe
      obtain ⟨rfl, rfl⟩ := hpe
      obtain ⟨L, hL, _⟩ := cellsAt_get hw hv hc
      obtain ⟨p', q1, q2, q3⟩ := read_piece hw hv hL hc hp
      have := haa L hL (beqF.1 hb)
      subst this
      refine ⟨p', fun w₁ => by simp [Builtin.lenOf], fun w₁ hh => ?_, q1, (piece_some hp).1⟩
      have := run_loadCells_list (P := P) w₁ ⟨L.blk, L.off + o, none⟩ p' (fun j v hj => by have := q3 j v hj; unfold World.cell? at this ⊢; rw [hh]; exact this)
      rw [q2] at this
      simp [Builtin.firstCells, this]
  · rename_i bs
    cases hb : Nat.beq s 1 with
    | false => simp [hb] at he
    | true =>
    simp only [hb, cond_true, Option.some.injEq, Prod.mk.injEq] at he
    obtain ⟨rfl, rfl⟩ := he
    cases hx
    have hs : s = 1 := Tri.beq_true.1 hb
    refine ⟨bytesV bs, fun w₁ => by simp [Builtin.lenOf], fun w₁ hh => ?_, VRs.bytes μ _, by rw [hs, Nat.mul_one]; simp [bytesV]⟩
    have : (bs.extract 0 bs.size).data = bs.data := by
      simp [ByteArray.data_extract]
    simp only [Builtin.firstCells, Sem.run_pure, this, bytesV]
    congr 1
    apply Array.ext'
    simp
  · cases he

def isIntD : TypeDesc → Bool
  | .int _ => true
  | _ => false

set_option maxHeartbeats 2000000 in
/-- what the model's append does where it grows -/
theorem run_append_grow {ts : Array TypeId} {ty t t1 e s : Nat} {d : TypeDesc} {i : TypeInfo} {z : Value} {base : Option Addr} {len cap' m : Nat} {x' : Value} {old news : List Value} (h0 : ts[0]? = some t) (h1 : ts[1]? = some t1)
    (hu : P.underlying t = some (.slice e)) (hu1 : P.underlying t1 = some d) (hd : isIntD d = false) (hs : sizeT P e = some s) (hi : P.info? e = some i) (hz : zeroT P e = some z) (hzs : z.cells.size = s) (hby : 1 ≤ i.bytes)
    (hlen : ∀ w₁, (Builtin.lenOf x').run P w₁ = .ok m w₁) (hnew : ∀ w₁ : World, w₁.heap = w.heap → (Builtin.firstCells s m x').run P w₁ = .ok news.toArray w₁)
    (hold : ∀ w₁ : World, w₁.heap = w.heap → (Builtin.firstCells s len (.slice base len cap')).run P w₁ = .ok old.toArray w₁) (hgrow : cap' < len + m) (hbig : (len + m) * i.bytes ≤ 140737488355328) :
    ∃ c'', len + m ≤ c'' ∧ ∃ rest : List Value, rest.length = (c'' - (len + m)) * s ∧
      (Builtin.append_ ts ty #[.slice base len cap', x']).run P w = .ok (.slice (some ⟨w.heap.size, 0, none⟩) (len + m) c'') (({ w with drawn := w.drawn + 1 } : World).alloc (.cells ((old ++ news) ++ rest).toArray e)) := by
  refine ⟨len + m + (w.tape w.drawn (.appendCap (len + m) cap' e)) % (2 ^ 63 - (len + m)), by omega, (Builtin.zeroCells z.cells ((w.tape w.drawn (.appendCap (len + m) cap' e)) % (2 ^ 63 - (len + m)))).toList, ?_, ?_⟩
  · simp [Builtin.zeroCells, hzs]
  · have hfit := Go.growslice_fits hgrow hbig
    have hb0 : i.bytes ≠ 0 := by omega
    have hsz := run_sizeT hs
    have hzv := fun w => (run_zeroT hz w).1
    have hne : ¬ (len + m ≤ cap') := by omega
    have hti : ∀ w, (typeInfo e).run P w = .ok i w := fun w => by simp [typeInfo, hi]
    have hfit' : ¬ (Builtin.nextslicecap (len + m) cap' * i.bytes > 2 ^ 48) := by
      have : (2 : Nat) ^ 48 = 281474976710656 := by decide
      omega
    have hold1 := hold w.drew rfl
    have hnew1 := hnew w.drew rfl
    have hhs : w.drew.heap.size = w.heap.size := rfl
    unfold Builtin.append_
    cases d <;> first | (simp [isIntD] at hd; done) | skip
    all_goals
      simp [h0, h1, run_underlying hu, run_underlying hu1, hsz, hlen, hne, hti, hb0, hfit', Question.forced, hold1, hnew1, hzv, Question.cut, newRow, hhs]
      congr 2
      apply Array.ext'
      simp

end
end Go.Proofs.YtpbnpbmiijgeiaaGreatDoor.Ev
