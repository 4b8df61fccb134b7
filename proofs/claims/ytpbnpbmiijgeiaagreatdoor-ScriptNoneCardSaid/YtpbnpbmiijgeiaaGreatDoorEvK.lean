/- An evaluator of the program's code, eleventh part: copies, made slices, texts, maps, comparisons. No condition. -/
import Derived.Test.YtpbnpbmiijgeiaaGreatDoorEvJ
import Derived.IntWalk
namespace Go.Proofs.YtpbnpbmiijgeiaaGreatDoor.Ev
open Go Go.RowKit

section
variable {P : Program} {w : World} {c : Ctx} {h h' : Mem} {n n' : Nat} {w₀ : World} {N : Nat} {μ : Mu} {T : AMem}

theorem keepN_some {α : Type} {h : Mem} {n : Nat} {o : Option α} {v : α} {h' : Mem} {n' : Nat} (e : keepN h n o = some (v, h', n')) : o = some v ∧ h' = h ∧ n' = n := by
  unfold keepN at e
  split at e
  · simp only [Option.some.injEq, Prod.mk.injEq] at e
    exact ⟨by rw [e.1], e.2.1.symm, e.2.2.symm⟩
  · cases e

theorem sliceT_some {t e : TypeId} (hs : sliceT P t = some e) : P.underlying t = some (.slice e) := by
  unfold sliceT at hs
  split at hs
  · rename_i hu; cases hs; exact hu
  · cases hs

theorem aCopy_sound {ts : Array TypeId} {ty t : TypeId} {d d' x x' r : Value} (h0 : ts[0]? = some t) (hw : WR w₀ N μ T w) (hv : View c h T) (hd : VR μ d d') (hx : VR μ x x') (he : aCopy P c h n t d x = some (r, h', n')) :
    Gives P c h' n n' w₀ N μ T w r (Builtin.copy_ ts ty #[d', x']) := by
  unfold aCopy at he
  split at he
  · cases he
  rename_i e hst
  have hu := sliceT_some hst
  split at he
  · cases he
  rename_i s hs
  have hsz := run_sizeT hs
  try dsimp only at he
  -- how long the source is
  have hlen : ∀ k, (match x with | .slice _ k _ => some k | .string b => some b.size | _ => none) = some k → ∀ w₁, (Builtin.lenOf x').run P w₁ = .ok k w₁ := by
    intro k hk w₁
    cases hx <;> simp at hk <;> subst hk <;> simp [Builtin.lenOf]
  split at he
  · rename_i l cap k hk
    cases hb : Nat.beq l 0 with
    | false => simp [hb] at he
    | true =>
    simp only [hb, cond_true, Option.some.injEq, Prod.mk.injEq] at he
    obtain ⟨rfl, rfl, rfl⟩ := he
    have hl := hlen k hk
    cases hd
    refine ⟨goInt 0, w, μ, T, ?_, Post.refl hw hv, .int _ _⟩
    have hf : (Builtin.firstCells s 0 x').run P w = .ok #[] w := by
      cases hx <;> simp at hk <;> simp [Builtin.firstCells, loadCells, loadCellsFrom]
    simp [Builtin.copy_, h0, run_underlying hu, hl, hsz, hf]
  · rename_i b o l cap k hk
    have hl := hlen k hk
    have key : ∃ a cap', d' = .slice (some a) l cap' ∧ ∃ L, μ b = some L ∧ (l ≠ 0 → a = ⟨L.blk, L.off + o, none⟩) := by
      cases hd with
      | sl _ _ _ _ L a hL hl hc ha => exact ⟨a, _, rfl, L, hL, fun hne => ha (by omega)⟩
      | slo _ _ _ q u L a c' hL hl hc hu hb ha => exact ⟨a, _, rfl, L, hL, fun hne => (ha (by omega)).1⟩
    obtain ⟨a, cap', rfl, L, hL, haa⟩ := key
    cases hb : Nat.beq (Nat.min k l) 0 with
    | true =>
      simp only [hb, cond_true, Option.some.injEq, Prod.mk.injEq] at he
      obtain ⟨rfl, rfl, rfl⟩ := he
      have hm := Tri.beq_true.1 hb
      refine ⟨goInt 0, w, μ, T, ?_, Post.refl hw hv, .int _ _⟩
      have hf : (Builtin.firstCells s 0 x').run P w = .ok #[] w := by
        cases hx <;> simp at hk <;> simp [Builtin.firstCells, loadCells, loadCellsFrom]
      simp [Builtin.copy_, h0, run_underlying hu, hl, hsz, hm, hf, storeCells]
    | false =>
      simp only [hb, cond_false] at he
      have hm : Nat.min k l ≠ 0 := beqF.1 hb
      have hl0 : l ≠ 0 := by rintro rfl; exact hm (Nat.min_zero k)
      have hk0 : k ≠ 0 := by rintro rfl; exact hm (Nat.zero_min l)
      have := haa hl0
      subst this
      split at he
      · cases he
      rename_i cells hcells
      obtain ⟨h1, hwr, hre⟩ := Option.map_eq_some_iff.1 he
      simp only [Prod.mk.injEq] at hre
      obtain ⟨rfl, rfl, rfl⟩ := hre
      have hrd : ∃ cells', (Builtin.firstCells s (Nat.min k l) x').run P w = .ok cells'.toArray w ∧ VRs μ cells cells' := by
        split at hcells
        · rename_i b2 o2 k2 cap2
          simp only [Option.some.injEq] at hk
          subst hk
          obtain ⟨cs, hc, hp⟩ := Option.bind_eq_some_iff.1 hcells
          obtain ⟨L2, hL2, _⟩ := cellsAt_get hw hv hc
          obtain ⟨p', q1, q2, q3⟩ := read_piece hw hv hL2 hc hp
          have hxx : ∃ cap3, x' = .slice (some ⟨L2.blk, L2.off + o2, none⟩) k2 cap3 := by
            cases hx with
            | sl _ _ _ _ L3 a3 hL3 hl3 hc3 ha3 => rw [hL2] at hL3; cases hL3; exact ⟨_, by rw [ha3 (by omega)]⟩
            | slo _ _ _ q u L3 a3 c' hL3 hl3 hc3 hu3 hb3 ha3 => rw [hL2] at hL3; cases hL3; exact ⟨_, by rw [(ha3 (by omega)).1]⟩
          obtain ⟨cap3, rfl⟩ := hxx
          refine ⟨p', ?_, q1⟩
          have := run_loadCells_list (P := P) w ⟨L2.blk, L2.off + o2, none⟩ p' (fun j v hj => q3 j v hj)
          rw [q2] at this
          simp [Builtin.firstCells, this]
        · rename_i bs
          cases hb2 : Nat.beq s 1 with
          | false => simp [hb2] at hcells
          | true =>
          simp only [hb2, cond_true, Option.some.injEq] at hcells
          subst hcells
          cases hx
          refine ⟨(bytesV bs).take (Nat.min k l), ?_, (VRs.bytes μ _).take _⟩
          simp only [Builtin.firstCells, Sem.run_pure]
          congr 1
          apply Array.ext'
          simp [bytesV, ByteArray.data_extract, Array.toList_extract, List.extract_eq_take_drop, List.map_take]
        · cases hcells
      obtain ⟨cells', hfc, hcc⟩ := hrd
      obtain ⟨hrun, T', hp⟩ := wr_write (P := P) hw hv hL hwr hcc
      refine ⟨goInt (Nat.min k l), _, μ, T', ?_, hp, .int _ _⟩
      simp [Builtin.copy_, h0, run_underlying hu, hl, hsz, hfc, hrun]
  · cases he

theorem aClear_sound {ts : Array TypeId} {ty t : TypeId} {x x' r : Value} (h0 : ts[0]? = some t) (hw : WR w₀ N μ T w) (hv : View c h T) (hx : VR μ x x') (he : aClear P c h n t x = some (r, h', n')) :
    Gives P c h' n n' w₀ N μ T w r (Builtin.clear_ ts ty #[x']) := by
  unfold aClear at he
  split at he
  · cases he
  rename_i e hst
  have hu := sliceT_some hst
  have ut : VR μ (.tuple #[]) (.tuple #[]) := .tuple _ _ rfl (fun i p _ => by simp at p)
  split at he
  · simp only [Option.some.injEq, Prod.mk.injEq] at he
    obtain ⟨rfl, rfl, rfl⟩ := he
    cases hx
    exact ⟨_, w, μ, T, by simp [Builtin.clear_, h0, run_underlying hu], Post.refl hw hv, ut⟩
  · rename_i b o l cap
    have key : ∃ a cap', x' = .slice (some a) l cap' ∧ ∃ L, μ b = some L ∧ (l ≠ 0 → a = ⟨L.blk, L.off + o, none⟩) := by
      cases hx with
      | sl _ _ _ _ L a hL hl hc ha => exact ⟨a, _, rfl, L, hL, fun hne => ha (by omega)⟩
      | slo _ _ _ q u L a c' hL hl hc hu hb ha => exact ⟨a, _, rfl, L, hL, fun hne => (ha (by omega)).1⟩
    obtain ⟨a, cap', rfl, L, hL, haa⟩ := key
    cases hb : Nat.beq l 0 with
    | true =>
      simp only [hb, cond_true, Option.some.injEq, Prod.mk.injEq] at he
      obtain ⟨rfl, rfl, rfl⟩ := he
      have hm := Tri.beq_true.1 hb
      subst hm
      exact ⟨_, w, μ, T, by simp [Builtin.clear_, h0, run_underlying hu], Post.refl hw hv, ut⟩
    | false =>
      simp only [hb, cond_false] at he
      have hl0 : l ≠ 0 := beqF.1 hb
      have := haa hl0
      subst this
      split at he
      case h_2 => cases he
      rename_i z s hz hs
      cases hb2 : Nat.beq z.cells.size s with
      | false => simp [hb2] at he
      | true =>
      simp only [hb2, cond_true] at he
      obtain ⟨h1, hwr, hre⟩ := Option.map_eq_some_iff.1 he
      simp only [Prod.mk.injEq] at hre
      obtain ⟨rfl, rfl, rfl⟩ := hre
      obtain ⟨hrun, T', hp⟩ := wr_write (P := P) hw hv hL hwr (flatten_VRs (zero_VRs (P := P) hz) l)
      refine ⟨_, _, μ, T', ?_, hp, ut⟩
      have hzc : Builtin.zeroCells z.cells l = (List.replicate l z.cells.toList).flatten.toArray := by
        unfold Builtin.zeroCells
        rcases Nat.eq_zero_or_pos z.cells.size with e0 | e0
        · have : z.cells = #[] := Array.size_eq_zero_iff.1 e0
          apply Array.ext'
          simp [this]
        · exact zeros_eq z.cells l e0
      cases l with
      | zero => exact absurd rfl hl0
      | succ l => simp [Builtin.clear_, h0, run_underlying hu, (run_zeroT hz w).1, hzc, hrun]
  · cases he

theorem aMakeSlice_sound {t : TypeId} {l l' k k' r : Value} (hw : WR w₀ N μ T w) (hv : View c h T) (hf : Fresh μ T n n') (hl : VR μ l l') (hk : VR μ k k') (he : aMakeSlice P h n t l k = some (r, h', n')) :
    Gives P c h' n n' w₀ N μ T w r (Instr.makeSlice t l' k') := by
  unfold aMakeSlice at he
  split at he
  · cases he
  rename_i e hst
  have hu := sliceT_some hst
  split at he
  case h_2 => cases he
  rename_i i z lv kv hi hz hl1 hk1
  obtain ⟨kl, rfl, rfl⟩ := natOf_some hl1 hl
  obtain ⟨kk, rfl, rfl⟩ := natOf_some hk1 hk
  cases hb : (Nat.ble lv kv && (Nat.ble (kv * (i.bytes + 1)) BIG && Nat.beq z.cells.size i.size)) with
  | false => simp [hb] at he
  | true =>
  simp only [hb, cond_true] at he
  simp only [Bool.and_eq_true] at hb
  have h1 := ble.1 hb.1
  have h2 := ble.1 hb.2.1
  have h3 := Tri.beq_true.1 hb.2.2
  obtain ⟨⟨h2', n2⟩, ha, hre⟩ := Option.map_eq_some_iff.1 he
  simp only [Prod.mk.injEq] at hre
  obtain ⟨rfl, rfl, rfl⟩ := hre
  have hB : (BIG : Nat) = 4294967296 := rfl
  have hbig2 : kv * i.bytes + kv ≤ 4294967296 := by rw [Nat.mul_add, Nat.mul_one] at h2; omega
  have hzz := zero_VRs (μ := μ) hz
  have hxx := flatten_VRs hzz kv
  have hp := wr_cells (rest := []) (t := e) hw hv ha hf hxx
  rw [List.append_nil] at hp
  have hwr1 : IntKind.i64.wrap (lv : Int) = lv := IntWalk.i64_in _ (by omega)
  have hwr2 : IntKind.i64.wrap (kv : Int) = kv := IntWalk.i64_in _ (by omega)
  have hzero : (if kv * i.size = 0 then (pure #[] : Sem (Array Value)) else do pure (← zeroValue e).cells).run P w = .ok (if kv * i.size = 0 then #[] else z.cells) w := by
    split
    · rfl
    · simp [(run_zeroT hz w).1]
  have hrow : ((Array.range (kv * i.size)).map fun j => (if kv * i.size = 0 then (#[] : Array Value) else z.cells)[j % (if kv * i.size = 0 then (#[] : Array Value) else z.cells).size]!) = (List.replicate kv z.cells.toList).flatten.toArray := by
    split
    · rename_i e0
      rw [e0]
      apply Array.ext'
      rcases Nat.mul_eq_zero.1 e0 with e1 | e1
      · simp [e1]
      · have : z.cells = #[] := Array.size_eq_zero_iff.1 (by omega)
        simp [this]
    · rename_i e0
      have : 1 ≤ z.cells.size := by
        rcases Nat.eq_zero_or_pos z.cells.size with e1 | e1
        · rw [← h3, e1] at e0; simp at e0
        · exact e1
      rw [← h3]
      exact zeros_eq z.cells kv this
  refine ⟨_, _, _, _, ?_, hp, .sl _ 0 _ _ _ _ (upd_same _ _ _) h1 (by unfold OPEN; omega) (fun _ => rfl)⟩
  have hA : ¬ ((i.bytes : Int) * (kv : Int) > 2 ^ 48) := by
    have h1 : ((kv * i.bytes : Nat) : Int) ≤ 4294967296 := by omega
    rw [Int.natCast_mul, Int.mul_comm] at h1
    have : (2 : Int) ^ 48 = 281474976710656 := by decide
    omega
  have hC : ¬ ((lv : Int) > kv) := by omega
  have hcond : ¬ (((kv : Int) < 0 ∨ 281474976710656 < (i.bytes : Int) * (kv : Int)) ∨ (lv : Int) < 0) := by
    have : (2 : Int) ^ 48 = 281474976710656 := by decide
    omega
  have hti : ∀ w, (typeInfo e).run P w = .ok i w := fun w => by simp [typeInfo, hi]
  have hso : ∀ w, (sizeOf e).run P w = .ok i.size w := fun w => by simp [sizeOf, hti]
  unfold Instr.makeSlice
  by_cases e0 : kv * i.size = 0
  · rw [e0] at hrow
    have hrow' : (List.replicate kv z.cells.toList).flatten.toArray = #[] := by rw [← hrow]; apply Array.ext'; simp
    simp [asInt, asIntOf, run_underlying hu, hti, hso, hwr1, hwr2, hcond, hC, e0, newRow, hrow']
    congr 2
    apply Array.ext'
    simp
  · simp only [if_neg e0] at hrow
    simp [asInt, asIntOf, run_underlying hu, hti, hso, hwr1, hwr2, hcond, hC, e0, newRow, (run_zeroT hz w).1, hrow]

end
end Go.Proofs.YtpbnpbmiijgeiaaGreatDoor.Ev
