/- An evaluator of the program's code, sixth part: loads, stores, parts, slices. No condition. -/
import Derived.Test.YtpbnpbmiijgeiaaGreatDoorEvE
namespace Go.Proofs.YtpbnpbmiijgeiaaGreatDoor.Ev
open Go Go.RowKit

section
variable {P : Program} {w : World}

theorem run_pureRun {α : Type} : ∀ (s : Sem α) (a : α), pureRun P s = some a → ∀ w, s.run P w = .ok a w
  | .pure _, _, h, _ => by simp only [pureRun, Option.some.injEq] at h; rw [h]; rfl
  | .program k, a, h, w => by rw [pureRun] at h; exact run_pureRun (k P) a h w

theorem run_pureV {μ : Mu} {s : Sem Value} {v : Value} (h : pureV P s = some v) (w : World) : s.run P w = .ok v w ∧ VR μ v v := by
  unfold pureV at h
  split at h
  · rename_i u hu
    cases ha : atom 3 u with
    | false => simp [ha] at h
    | true =>
      simp only [ha, cond_true, Option.some.injEq] at h
      subst h
      exact ⟨run_pureRun s u hu w, atom_refl μ 3 u ha⟩
  · cases h

theorem run_isAggT {t : TypeId} {q : Bool} (h : isAggT P t = some q) (w : World) : (isAgg t).run P w = .ok q w := by
  unfold isAggT at h
  cases hu : P.underlying t with
  | none => simp [hu] at h
  | some d =>
    have := run_underlying hu w
    rw [hu] at h
    cases d <;> simp only [Option.some.injEq] at h <;> subst h <;> simp [isAgg, this]
theorem run_sizeT {t : TypeId} {s : Nat} (h : sizeT P t = some s) (w : World) : (sizeOf t).run P w = .ok s w := by
  unfold sizeT at h
  cases hi : P.info? t with
  | none => simp [hi] at h
  | some i => simp [hi] at h; simp [sizeOf, typeInfo, hi, h]
theorem run_zeroT {t : TypeId} {z : Value} (h : zeroT P t = some z) (w : World) : (zeroValue t).run P w = .ok z w ∧ atom 3 z = true := by
  unfold zeroT at h
  cases hi : P.info? t with
  | none => simp [hi] at h
  | some i =>
    cases hz : i.zero with
    | none => simp [hi, hz] at h
    | some v =>
      simp only [hi, hz, Option.bind_some] at h
      cases ha : atom 3 v with
      | false => simp [ha] at h
      | true =>
        simp only [ha, cond_true, Option.some.injEq] at h
        subst h
        exact ⟨by simp [zeroValue, typeInfo, hi, hz], ha⟩

theorem add_mid (b o j : Nat) : (⟨b, o, none⟩ : Addr).add j = ⟨b, o + j, none⟩ := by unfold Addr.add; split <;> simp_all

theorem aLoad_sound {c : Ctx} {h : Mem} {w₀ : World} {N : Nat} {μ : Mu} {T : AMem} {t : TypeId} {v v' r : Value} (hw : WR w₀ N μ T w) (hv : View c h T) (hr : VR μ v v') (he : aLoad P c h t v = some r) :
    ∃ r', (Instr.loadAt t v').run P w = .ok r' w ∧ VR μ r r' := by
  unfold aLoad at he
  split at he
  case h_2 => cases he
  rename_i b o
  cases hr with
  | ptr _ _ L hL =>
  split at he
  · rename_i cs hc ha
    split at he
    · rename_i s hs
      obtain ⟨p, hp, rfl⟩ := Option.map_eq_some_iff.1 he
      obtain ⟨p', h1, h2, h3⟩ := read_piece hw hv hL hc hp
      have hl := run_loadCells_list (P := P) w ⟨L.blk, L.off + o, none⟩ p' h3
      rw [h2] at hl
      exact ⟨.agg p'.toArray, by simp [Instr.loadAt, Instr.sureAddr, loadVar, run_isAggT ha, run_sizeT hs, hl], VR.agg_of h1⟩
    · cases he
  · rename_i cs hc ha
    obtain ⟨L', h1, h2⟩ := cellsAt_get hw hv hc
    rw [hL] at h1; cases h1
    obtain ⟨r', h3, h4⟩ := h2 _ _ he
    exact ⟨r', by simp [Instr.loadAt, Instr.sureAddr, loadVar, run_isAggT ha, h3], h4⟩
  · cases he

theorem VR.cells_size {μ : Mu} {v v' : Value} (h : VR μ v v') : v.cells.size = v'.cells.size := by simpa using h.cells.1

theorem aStore_sound {c : Ctx} {h h' : Mem} {n : Nat} {w₀ : World} {N : Nat} {μ : Mu} {T : AMem} {t : TypeId} {v v' x x' : Value} (hw : WR w₀ N μ T w) (hv : View c h T) (hr : VR μ v v') (hx : VR μ x x')
    (he : aStore P c h n t v x = some h') : ∃ w' T', (Instr.storeAt t v' x').run P w = .ok () w' ∧ Post c h' n n w₀ N μ T μ T' w' := by
  unfold aStore at he
  split at he
  case h_2 => cases he
  rename_i b o s hs
  cases hr with
  | ptr _ _ L hL =>
  cases hb : Nat.beq x.cells.size s with
  | false => simp [hb] at he
  | true =>
  simp only [hb, cond_true] at he
  have hsz := Tri.beq_true.1 hb
  obtain ⟨hrun, T', hp⟩ := wr_write (P := P) hw hv hL he hx.cells
  refine ⟨_, T', ?_, hp⟩
  simp [Instr.storeAt, Instr.sureAddr, storeVar, run_sizeT hs, ← hx.cells_size, hsz, hrun]

theorem aField_sound {μ : Mu} {t : TypeId} {x x' r : Value} {f : Nat} (hx : VR μ x x') (he : aField P t x f = some r) : ∃ r', (Instr.field t x' f).run P w = .ok r' w ∧ VR μ r r' := by
  unfold aField at he
  split at he
  case h_2 => cases he
  rename_i fs cs hf
  cases hx with
  | agg _ cs' hsz hk =>
  have hfs : P.underlying t = some (.struct fs) := by
    unfold fieldsT at hf
    split at hf
    · rename_i hu; cases hf; exact hu
    · cases hf
  split at he
  case h_2 => cases he
  rename_i fd hfd
  have hcs := VRs.of_array hsz hk
  split at he
  · rename_i s ha hs
    cases hb : Nat.ble (fd.offset + s) cs.size with
    | false => simp [hb] at he
    | true =>
    simp only [hb, cond_true, Option.some.injEq] at he
    subst he
    have hle := ble.1 hb
    refine ⟨.agg ((cs'.toList.drop fd.offset).take s).toArray, ?_, VR.agg_of ((hcs.drop _).take _)⟩
    have hex : cs'.extract fd.offset (fd.offset + s) = ((cs'.toList.drop fd.offset).take s).toArray := by
      apply Array.ext'
      simp [Array.toList_extract, List.extract_eq_take_drop]
    simp [Instr.field, run_underlying hfs, hfd, part, run_isAggT ha, run_sizeT hs, asAgg, hex]
  · rename_i ha
    obtain ⟨r', h1, h2⟩ := hcs.2 _ _ he
    refine ⟨r', ?_, h2⟩
    rw [Array.getElem?_toList] at h1
    simp [Instr.field, run_underlying hfs, hfd, part, run_isAggT ha, asAgg, h1]
  · cases he

theorem natOf_some {μ : Mu} {v v' : Value} {n : Nat} (h : natOf v = some n) (hv : VR μ v v') : ∃ k, v = .int k (n : Int) ∧ v' = .int k (n : Int) := by
  unfold natOf at h
  split at h
  · cases h; cases hv; exact ⟨_, rfl, rfl⟩
  · cases h

theorem aIndex_sound {μ : Mu} {t : TypeId} {x x' i i' r : Value} (hx : VR μ x x') (hi : VR μ i i') (he : aIndex P t x i = some r) : ∃ r', (Instr.index t x' i').run P w = .ok r' w ∧ VR μ r r' := by
  unfold aIndex at he
  split at he
  case h_2 => cases he
  rename_i len e cs k hu hk
  obtain ⟨kk, rfl, rfl⟩ := natOf_some hk hi
  cases hx with
  | agg _ cs' hsz hkk =>
  have hcs := VRs.of_array hsz hkk
  cases hb : Nat.ble (k + 1) len with
  | false => simp [hb] at he
  | true =>
  simp only [hb, cond_true] at he
  have hlt : k < len := ble.1 hb
  have hcond : (0 : Int) ≤ (k : Int) ∧ (k : Int) < len := ⟨by omega, by omega⟩
  split at he
  · rename_i s ha hs
    cases hb2 : Nat.ble (k * s + s) cs.size with
    | false => simp [hb2] at he
    | true =>
    simp only [hb2, cond_true, Option.some.injEq] at he
    subst he
    refine ⟨.agg ((cs'.toList.drop (k * s)).take s).toArray, ?_, VR.agg_of ((hcs.drop _).take _)⟩
    have hex : cs'.extract (k * s) (k * s + s) = ((cs'.toList.drop (k * s)).take s).toArray := by
      apply Array.ext'
      simp [Array.toList_extract, List.extract_eq_take_drop]
    simp [Instr.index, asIntOf, run_underlying hu, hlt, part, run_isAggT ha, run_sizeT hs, hex]
  · rename_i s ha hs
    obtain ⟨r', h1, h2⟩ := hcs.2 _ _ he
    refine ⟨r', ?_, h2⟩
    rw [Array.getElem?_toList] at h1
    simp [Instr.index, asIntOf, run_underlying hu, hlt, part, run_isAggT ha, run_sizeT hs, h1]
  · cases he

theorem aIndexAddr_sound {μ : Mu} {t : TypeId} {x x' i i' r : Value} (hx : VR μ x x') (hi : VR μ i i') (he : aIndexAddr P t x i = some r) : ∃ r', (Instr.indexAt t x' i').run P w = .ok r' w ∧ VR μ r r' := by
  unfold aIndexAddr at he
  split at he
  · rename_i len e b o k hu hk
    obtain ⟨kk, rfl, rfl⟩ := natOf_some hk hi
    cases hx with
    | ptr _ _ L hL =>
    cases hb : Nat.ble (k + 1) len with
    | false => simp [hb] at he
    | true =>
    simp only [hb, cond_true] at he
    obtain ⟨s, hs, rfl⟩ := Option.map_eq_some_iff.1 he
    have hlt : k < len := ble.1 hb
    refine ⟨.pointer (some ⟨L.blk, L.off + (o + k * s), none⟩), ?_, .ptr _ _ L hL⟩
    have hlt' : (k : Int) < len := by omega
    simp [Instr.indexAt, asIntOf, run_underlying hu, Instr.sureAddr, run_sizeT hs, hlt, add_mid, Nat.add_assoc]
  · rename_i e b o len cap k hu hk
    obtain ⟨kk, rfl, rfl⟩ := natOf_some hk hi
    cases hb : Nat.ble (k + 1) len with
    | false => simp [hb] at he
    | true =>
    simp only [hb, cond_true] at he
    obtain ⟨s, hs, rfl⟩ := Option.map_eq_some_iff.1 he
    have hlt : k < len := ble.1 hb
    cases hx with
    | sl _ _ _ _ L a hL hl hc ha =>
      have := ha (by omega)
      subst this
      refine ⟨.pointer (some ⟨L.blk, L.off + (o + k * s), none⟩), ?_, .ptr _ _ L hL⟩
      simp [Instr.indexAt, asIntOf, run_underlying hu, run_sizeT hs, hlt, add_mid, Nat.add_assoc]
    | slo _ _ _ q u L a c' hL hl hc hu' hb' ha =>
      have := (ha (by omega)).1
      subst this
      refine ⟨.pointer (some ⟨L.blk, L.off + (o + k * s), none⟩), ?_, .ptr _ _ L hL⟩
      simp [Instr.indexAt, asIntOf, run_underlying hu, run_sizeT hs, hlt, add_mid, Nat.add_assoc]
  · cases he

theorem aFieldAddr_sound {μ : Mu} {t : TypeId} {x x' r : Value} {f : Nat} (hx : VR μ x x') (he : aFieldAddr P t x f = some r) : ∃ r', (Instr.fieldAt t x' f).run P w = .ok r' w ∧ VR μ r r' := by
  unfold aFieldAddr at he
  split at he
  case h_2 => cases he
  rename_i fs b o hf
  cases hx with
  | ptr _ _ L hL =>
  have hfs : P.underlying t = some (.struct fs) := by
    unfold fieldsT at hf
    split at hf
    · rename_i hu; cases hf; exact hu
    · cases hf
  split at he
  case h_2 => cases he
  rename_i fd hfd
  cases hs : sizeT P fd.type with
  | none => simp [hs] at he
  | some s =>
  cases hb : Nat.ble 1 s with
  | false => simp [hs, hb] at he
  | true =>
  simp only [hs, hb, cond_true, Option.some.injEq] at he
  subst he
  have hs0 : 1 ≤ s := ble.1 hb
  refine ⟨.pointer (some ⟨L.blk, L.off + (o + fd.offset), none⟩), ?_, .ptr _ _ L hL⟩
  have hne : s ≠ 0 := by omega
  simp [Instr.fieldAt, run_underlying hfs, hfd, Instr.sureAddr, fieldPlace, run_sizeT hs, hne, add_mid, Nat.add_assoc]

end
end Go.Proofs.YtpbnpbmiijgeiaaGreatDoor.Ev
