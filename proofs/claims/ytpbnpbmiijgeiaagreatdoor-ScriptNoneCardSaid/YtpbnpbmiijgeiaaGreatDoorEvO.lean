/- An evaluator of the program's code, fifteenth part: texts out of bytes, slice literals, and all operations together. No condition. -/
import Derived.Test.YtpbnpbmiijgeiaaGreatDoorEvN
import Derived.Laws.BytesArg
import Derived.Laws.IdiomStrings
namespace Go.Proofs.YtpbnpbmiijgeiaaGreatDoor.Ev
open Go Go.RowKit

section
variable {P : Program} {w : World} {c : Ctx} {h h' : Mem} {n n' : Nat} {w₀ : World} {N : Nat} {μ : Mu} {T : AMem}

theorem strOf_nums : ∀ (p p' : List Value) (l : List UInt8), VRs μ p p' → strOf p = some l → ∃ ns : List Int, p' = ns.map (Value.int .u8) ∧ l = ns.map fun n => UInt8.ofNat n.toNat
  | [], p', l, hp, hs => by
    obtain rfl := hp.unnil
    simp only [strOf, Option.some.injEq] at hs
    subst hs
    exact ⟨[], rfl, rfl⟩
  | x :: p, p', l, hp, hs => by
    obtain ⟨v', vs, rfl, h1, h2⟩ := hp.uncons
    unfold strOf at hs
    split at hs
    · rename_i heq; cases heq
    · rename_i n r heq
      cases heq
      obtain ⟨l', hl, rfl⟩ := Option.map_eq_some_iff.1 hs
      cases h1
      obtain ⟨ns, rfl, rfl⟩ := strOf_nums p vs l' h2 hl
      exact ⟨n :: ns, rfl, rfl⟩
    · cases hs

theorem run_markStringish {a : Addr} {cs : Array Value} {t : TypeId} {fr : Nat × Nat} (h : w.heap[a.block]? = some (.cells cs t fr)) : (markStringish a).run P w = .ok () (w.freeze ⟨a.block, cs.size, none⟩ 1) := by
  have hs : w.shape? a.block = some (t, cs.size) := by unfold World.shape?; rw [h]
  simp [markStringish, hs]

theorem wr_mark {b : Nat} {cs : List Value} {lk : Option Nat} {L : Loc} (hw : WR w₀ N μ T w) (hT : T b = some (.cells cs lk)) (hL : μ b = some L) {cv : Array Value} {t : TypeId} {fr : Nat × Nat} (hh : w.heap[L.blk]? = some (.cells cv t fr)) :
    WR w₀ N μ T (w.freeze ⟨L.blk, cv.size, none⟩ 1) := by
  obtain ⟨L', q1, hN, hext, hfz, hcell⟩ := hw.obj _ _ hT
  rw [hL] at q1; cases q1
  have hother : ∀ k, k ≠ L.blk → (w.freeze ⟨L.blk, cv.size, none⟩ 1).heap[k]? = w.heap[k]? := by
    intro k hk
    unfold World.freeze
    rw [if_neg (by decide)]
    show (w.heap.modify L.blk _)[k]? = _
    rw [Array.getElem?_modify, if_neg (fun e => hk e.symm)]
  have hthis : (w.freeze ⟨L.blk, cv.size, none⟩ 1).heap[L.blk]? = some (.cells cv t (if fr.1 == fr.2 then (cv.size, cv.size + 1) else (min fr.1 cv.size, max fr.2 (cv.size + 1)))) := by
    unfold World.freeze
    rw [if_neg (by decide)]
    show (w.heap.modify L.blk _)[L.blk]? = _
    rw [Array.getElem?_modify, if_pos rfl, hh]
    obtain ⟨lo, hi⟩ := fr
    rfl
  have hsz : (w.freeze ⟨L.blk, cv.size, none⟩ 1).heap.size = w.heap.size := by
    unfold World.freeze
    rw [if_neg (by decide)]
    show (w.heap.modify L.blk _).size = _
    simp
  have hlo : cv.size ≤ (if fr.1 == fr.2 then (cv.size, cv.size + 1) else (min fr.1 cv.size, max fr.2 (cv.size + 1))).1 := by
    split
    · exact Nat.le_refl _
    · rename_i hne
      rcases hfz cv t fr hh with h1 | h1
      · exact absurd (by simpa using h1) hne
      · simp only []; omega
  have hcl : ∀ i, (w.freeze ⟨L.blk, cv.size, none⟩ 1).cell? ⟨L.blk, i, none⟩ = w.cell? ⟨L.blk, i, none⟩ := by
    intro i
    unfold World.cell?
    simp only [hthis, hh]
  have hB : Below N w₀ (w.freeze ⟨L.blk, cv.size, none⟩ 1) := by
    refine ⟨?_, ?_, ?_, by rw [hsz]; exact hw.below.size, fun k hk => ?_⟩
    · unfold World.freeze; rw [if_neg (by decide)]; exact hw.below.os
    · unfold World.freeze; rw [if_neg (by decide)]; exact hw.below.tape
    · unfold World.freeze; rw [if_neg (by decide)]; exact hw.below.output
    · rw [hother k (by omega)]; exact hw.below.block k hk
  refine ⟨hB, hw.low, fun b' o' h1 => ?_, fun b' o' L2 h1 h2 => by rw [hsz]; exact hw.old b' o' L2 h1 h2, hw.gl, hw.sep, hw.rol, hw.mapx⟩
  obtain ⟨L2, q1, q2⟩ := hw.obj b' o' h1
  refine ⟨L2, q1, ?_⟩
  by_cases hk : L2.blk = L.blk
  · cases o' with
    | ro c2 => have := hw.rol b' _ L2 h1 rfl q1; omega
    | map es =>
      obtain ⟨_, es', ck, q3, _⟩ := q2
      rw [hk, hh] at q3; cases q3
    | cells c2 lk2 =>
      obtain ⟨d1, d2, d3, d4⟩ := q2
      refine ⟨d1, d2, fun cs' t' fr' h3 => ?_, fun i hi => ?_⟩
      · rw [hk, hthis] at h3
        cases h3
        exact .inr hlo
      · obtain ⟨f1, v', f2, f3⟩ := d4 i hi
        rw [hk] at f2 ⊢
        refine ⟨?_, v', by rw [hcl]; exact f2, f3⟩
        have hlt : L2.off + i < cv.size := by
          unfold World.cell? at f2
          simp only [hh] at f2
          exact (Array.getElem?_eq_some_iff.1 (by simpa using f2)).1
        unfold World.frozen?
        simp only [hthis]
        simp only [Bool.and_eq_false_iff, decide_eq_false_iff_not]
        left
        omega
  · exact q2.same (fun _ _ h => h) (hother _ hk)

theorem aConvert_sound {src dst : TypeId} {x x' r : Value} (hw : WR w₀ N μ T w) (hv : View c h T) (hf : Fresh μ T n n') (hx : VR μ x x') (he : aConvert P c h n src dst x = some (r, h', n')) :
    Gives P c h' n n' w₀ N μ T w r (convert src dst x') := by
  unfold aConvert at he
  split at he
  · rename_i e a len cap hs hd
    split at he
    case h_2 => cases he
    rename_i hu
    have empty : x' = .slice none 0 0 ∨ (∃ a cap', x' = .slice (some a) 0 cap') → (convert src dst x').run P w = .ok (.string .empty) w := by
      rintro (rfl | ⟨a, cap', rfl⟩)
      · simp [convert, run_underlying hs, run_underlying hd, run_underlying hu, Conv.bytesToString]
      · simp [convert, run_underlying hs, run_underlying hd, run_underlying hu, Conv.bytesToString, loadCells, loadCellsFrom]
    split at he
    · simp only [Option.some.injEq, Prod.mk.injEq] at he
      obtain ⟨rfl, rfl, rfl⟩ := he
      cases hx
      exact gives_same hw hv (empty (.inl rfl)) (.string _)
    · rename_i b o
      have key : ∃ a cap', x' = .slice (some a) len cap' ∧ ∃ L, μ b = some L ∧ (len ≠ 0 → a = ⟨L.blk, L.off + o, none⟩) := by
        cases hx with
        | sl _ _ _ _ L a hL hl hc ha => exact ⟨a, _, rfl, L, hL, fun hne => ha (by omega)⟩
        | slo _ _ _ q u L a c' hL hl hc hu hb ha => exact ⟨a, _, rfl, L, hL, fun hne => (ha (by omega)).1⟩
      obtain ⟨a, cap', rfl, L, hL, haa⟩ := key
      cases hb : Nat.beq len 0 with
      | true =>
        simp only [hb, cond_true, Option.some.injEq, Prod.mk.injEq] at he
        obtain ⟨rfl, rfl, rfl⟩ := he
        have := Tri.beq_true.1 hb
        subst this
        exact gives_same hw hv (empty (.inr ⟨_, _, rfl⟩)) (.string _)
      | false =>
        simp only [hb, cond_false] at he
        have := haa (beqF.1 hb)
        subst this
        split at he
        case h_2 => cases he
        rename_i p hp
        obtain ⟨cs, hc, hp⟩ := Option.bind_eq_some_iff.1 hp
        obtain ⟨l, hl, hre⟩ := Option.map_eq_some_iff.1 he
        simp only [Prod.mk.injEq] at hre
        obtain ⟨rfl, rfl, rfl⟩ := hre
        obtain ⟨p', q1, q2, q3⟩ := read_piece hw hv hL hc hp
        have hld := run_loadCells_list (P := P) w ⟨L.blk, L.off + o, none⟩ p' (fun j v hj => q3 j v hj)
        rw [q2] at hld
        obtain ⟨ns, rfl, rfl⟩ := strOf_nums p p' l q1 hl
        refine gives_same hw hv ?_ (.string _)
        rw [run_convert_bytes_string w src dst e _ len cap' hs hu hd, run_bytesToString w _ len cap' ns hld, foldl_push_bytes]
        simp [ByteArray.empty, ByteArray.emptyWithCapacity]
        rfl
    · cases he
  · rename_i s hs hd
    simp only [Option.some.injEq, Prod.mk.injEq] at he
    obtain ⟨rfl, rfl, rfl⟩ := he
    cases hx
    exact gives_same hw hv (by simp [convert, run_underlying hs, run_underlying hd]) (.string _)
  · rename_i e e2 b o l k hs hd
    cases hb : (Nat.beq src dst && Nat.ble 1 l) with
    | false => simp [hb] at he
    | true =>
    simp only [hb, cond_true] at he
    simp only [Bool.and_eq_true] at hb
    obtain rfl := Tri.beq_true.1 hb.1
    have hl1 := ble.1 hb.2
    split at he
    case h_2 => cases he
    rename_i c0 cs lk hu hl
    simp only [Option.some.injEq, Prod.mk.injEq] at he
    obtain ⟨rfl, rfl, rfl⟩ := he
    have hT := hv _ _ hl
    obtain ⟨L, hL, hN, hext, hfz, hcell⟩ := hw.obj _ _ hT
    have hee : e2 = e := by rw [hs] at hd; cases hd; rfl
    subst hee
    have key : ∃ a cap', x' = .slice (some a) l cap' ∧ a.block = L.blk := by
      cases hx with
      | sl _ _ _ _ L' a hL' hl hc ha => rw [hL] at hL'; cases hL'; exact ⟨a, _, rfl, by rw [ha (by omega)]⟩
      | slo _ _ _ q u L' a c' hL' hl hc hu hb ha => rw [hL] at hL'; cases hL'; exact ⟨a, _, rfl, by rw [(ha (by omega)).1]⟩
    obtain ⟨a, cap', rfl, hab⟩ := key
    obtain ⟨_, v', hc0, _⟩ := hcell 0 (by simp at hext; omega)
    have hblk : ∃ cv t fr, w.heap[L.blk]? = some (.cells cv t fr) := by
      unfold World.cell? at hc0
      simp only [] at hc0
      split at hc0
      · rename_i cv t fr hh; exact ⟨cv, t, fr, hh⟩
      · cases hc0
    obtain ⟨cv, t, fr, hh⟩ := hblk
    have hmk := run_markStringish (P := P) (w := w) (a := a) (cs := cv) (t := t) (fr := fr) (by rw [hab]; exact hh)
    rw [hab] at hmk
    refine ⟨_, _, μ, T, ?_, Post.refl (wr_mark hw hT hL hh) hv, hx⟩
    simp [convert, run_underlying hs, run_underlying hu, hmk]
  · rename_i e s hs hd
    split at he
    case h_2 => cases he
    rename_i hu
    cases hb : Nat.ble (s.size + 1) BIG with
    | false => simp [hb] at he
    | true =>
    simp only [hb, cond_true] at he
    have hbig := ble.1 hb
    have hB : (BIG : Nat) = 4294967296 := rfl
    obtain ⟨⟨h1, n1⟩, ha, hre⟩ := Option.map_eq_some_iff.1 he
    simp only [Prod.mk.injEq] at hre
    obtain ⟨rfl, rfl, rfl⟩ := hre
    cases hx
    have hle : s.size ≤ grownCap w s.size 0 e := by unfold grownCap; simp only [Question.cut]; omega
    have hrun := run_bytes_of_string w src dst e s hs hd hu
    have hwd : WR w₀ N μ T w.drew := hw.drew
    generalize grownCap w s.size 0 e = k at hle hrun
    have hsz : (bytesRow s k).size = k := by
      simp only [bytesRow, Array.size_append, Array.size_map, Array.size_replicate]
      have : s.data.size = s.size := rfl
      omega
    have hfn := (hf n (Nat.le_refl _) (by have := (aNew_some ha).2.2; omega)).2
    refine ⟨_, _, _, _, hrun, wr_new (L := ⟨w.heap.size, 0, k⟩) hwd hv ha hf _ rfl ⟨Nat.le_trans hw.low hw.below.size, by simpa [bytesV] using hle, ?_, fun i hi => ⟨?_, ?_⟩⟩ rfl (by intro es he; cases he), ?_⟩
    · intro cs t fr hh
      rw [show ({ blk := w.heap.size, off := 0, ext := k } : Loc).blk = w.drew.heap.size from rfl, heap_alloc_new] at hh
      cases hh
      exact .inr (Nat.le_refl _)
    · simp only [Nat.zero_add]
      unfold World.frozen?
      rw [show ({ block := w.heap.size, off := i, spot := none } : Addr).block = w.drew.heap.size from rfl, heap_alloc_new]
      simp only [] at hi ⊢
      rw [hsz]
      simp; omega
    · simp only [Nat.zero_add]
      simp only [] at hi
      refine ⟨(bytesRow s k)[i]'(by rw [hsz]; exact hi), ?_, fun v hvv => ?_⟩
      · have := cell_new (w := w.drew) (cs := bytesRow s k) (t := e) (fr := ((bytesRow s k).size, (bytesRow s k).size + 1)) i
        rw [show w.drew.heap.size = w.heap.size from rfl] at this
        rw [this]
        simp [hsz, hi]
      · have hi2 : i < s.data.size := by
          have := (List.getElem?_eq_some_iff.1 hvv).1
          simpa [bytesV] using this
        have h0 : (bytesRow s k)[i]? = some (.int .u8 (s.data[i].toNat : Int)) := by
          unfold bytesRow
          rw [Array.getElem?_append_left (by simpa using hi2), Array.getElem?_map, Array.getElem?_eq_getElem hi2]
          rfl
        have : (bytesRow s k)[i]'(by rw [hsz]; exact hi) = .int .u8 (s.data[i].toNat : Int) := by
          rw [Array.getElem?_eq_getElem (by rw [hsz]; exact hi)] at h0
          simpa using h0
        rw [this]
        simp only [bytesV, List.getElem?_map, Array.getElem?_toList, Array.getElem?_eq_getElem hi2, Option.map_some, Option.some.injEq] at hvv
        subst hvv
        exact .int _ _
    · have := VR.slo (μ := upd μ n (some ⟨w.heap.size, 0, k⟩)) n 0 s.size s.size 1 ⟨w.heap.size, 0, k⟩ ⟨w.heap.size, 0, none⟩ k (upd_same _ _ _) (Nat.le_refl _) hle (by omega) (by unfold OPEN; omega) (fun _ => ⟨by simp, by simp⟩)
      rw [Nat.mul_one] at this
      exact this
  · cases he

theorem aBuildSlice_sound {t : TypeId} {len : Nat} {ps ps' : List (Nat × Value)} {r : Value} (hw : WR w₀ N μ T w) (hv : View c h T) (hf : Fresh μ T n n') (hi : ps.map (·.1) = ps'.map (·.1)) (hvs : VRs μ (ps.map (·.2)) (ps'.map (·.2)))
    (he : aBuildSlice P h n t len ps = some (r, h', n')) : Gives P c h' n n' w₀ N μ T w r (Instr.buildSlice t len ps'.toArray) := by
  unfold aBuildSlice at he
  split at he
  · cases he
  rename_i e hst
  have hu := sliceT_some hst
  split at he
  case h_2 => cases he
  rename_i s z hs hz
  cases hb : (Nat.ble (len * s) 65536 && (Nat.beq z.cells.size s && Nat.ble 1 s)) with
  | false => simp [hb] at he
  | true =>
  simp only [hb, cond_true] at he
  simp only [Bool.and_eq_true] at hb
  have hbig := ble.1 hb.1
  have hzs := Tri.beq_true.1 hb.2.1
  have hs1 := ble.1 hb.2.2
  split at he
  case h_2 => cases he
  rename_i cs hfill
  obtain ⟨⟨h1, n1⟩, ha, hre⟩ := Option.map_eq_some_iff.1 he
  simp only [Prod.mk.injEq] at hre
  obtain ⟨rfl, rfl, rfl⟩ := hre
  obtain ⟨r', q1, q2⟩ := aFill_sound (place' := fun i => some (i * s, s)) (fun i p hp => hp) ps ps' _ _ cs hi hvs (flatten_VRs (zero_VRs (P := P) hz) len) hfill
  have hp := wr_cells (rest := []) (t := e) hw hv ha hf q2
  rw [List.append_nil] at hp
  have hzz : ((Array.range (len * s)).map fun i => z.cells[i % z.cells.size]!) = (List.replicate len z.cells.toList).flatten.toArray := by rw [← hzs]; exact zeros_eq z.cells len (by omega)
  have hN : ¬ (len * s > 2 ^ 24) := by have : (2 : Nat) ^ 24 = 16777216 := by decide
                                       omega
  refine ⟨_, _, _, _, ?_, hp, .sl _ 0 _ _ _ _ (upd_same _ _ _) (Nat.le_refl _) (by have := Nat.le_mul_of_pos_right len hs1; unfold OPEN; omega) (fun _ => rfl)⟩
  have hzero : ∀ w : World, (if len * s = 0 then (pure #[] : Sem (Array Value)) else do pure (← zeroValue e).cells).run P w = .ok (if len * s = 0 then #[] else z.cells) w := fun w => by
    split
    · rfl
    · simp [(run_zeroT hz w).1]
  unfold Instr.buildSlice
  simp only [Sem.run_bind, run_underlying hu, Result.andThen_ok, run_sizeT hs, if_neg hN, hzero, Sem.run_pure]
  by_cases e0 : len * s = 0
  · have hl0 : len = 0 := by rcases Nat.mul_eq_zero.1 e0 with e1 | e1 <;> omega
    subst hl0
    simp at q1
    have hm : Array.map (fun _ => (default : Value)) (Array.range 0) = #[] := by apply Array.ext'; simp
    simp [hm, q1, newRow]
  · simp only [if_neg e0, Sem.run_bind, (run_zeroT hz w).1, Result.andThen_ok, Sem.run_pure, hzz, q1]
    simp [newRow]

end
end Go.Proofs.YtpbnpbmiijgeiaaGreatDoor.Ev
