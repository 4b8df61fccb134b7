/- The reference's Read: which operation a line is. Condition: a line of at most 8388608 bytes. -/
import Derived.Deep.CutRange
import Derived.Deep.RegionHeld3
import Derived.IntWalk
import Derived.Test.YtjplfkcelkijfaaGreatDoorVc
namespace Go.Proofs.YtjplfkcelkijfaaGreatDoor
open Go.RowKit
attribute [local irreducible] wpQuiet

theorem kind_ne {x0 : List UInt8} {k : Nat} (h1 : 1 ≤ k) (h2 : k ≤ 20) : wordT k = x0 ↔ kindW x0 = k := by
  constructor
  · intro h; rw [← h]; exact kindW_word ⟨k, by omega⟩ (by show k ≠ 0; omega)
  · intro h; rw [← h]; exact wordT_kindW (by omega)
/-- behind a part's taking: the operation lies in block N -/
def ReadStep (x : OpV) (p : Nat) (sx : List UInt8) (wx : World) (A : Option Addr) (g : Nat) (wc : World) (N : Nat) (E : Int) : Prop :=
  ∃ y A' cap', wc.heap[N]? = some (.cells (opV y (.slice A' y.b.length cap')).toArray 26 (0, 0)) ∧ CellsIn wc A' (Lib.byteCells y.b) ∧ (∀ a, A' = some a → g < a.block) ∧ y.d.length = 32 ∧ E = (takeV x p sx).2 ∧ (E = 0 → y = (takeV x p sx).1) ∧ wx.heap.size ≤ N ∧ Below wx.heap.size wx wc
theorem readStep_of {x : OpV} {p : Nat} {sx : List UInt8} {wx w5 w6 : World} {A A' : Option Addr} {cap' g N n : Nat} {E : Int} {y : OpV} (hyd : y.d.length = 32) (hE : E = (takeV x p sx).2) (hye : E = 0 → y = (takeV x p sx).1)
    (hc : CellsIn w6 A' (Lib.byteCells y.b)) (hlow : A' = A ∧ y.b = x.b ∨ ∀ a, A' = some a → n ≤ a.block) (hn : g < n) (hN : n ≤ N ∧ N = w5.heap.size ∧ CellsIn w5 A' (Lib.byteCells y.b) ∨ N < n) (hcells : CellsIn wx A (Lib.byteCells x.b)) (hap : ∀ a, A = some a → g < a.block)
    (hr : w6.heap[N]? = some (.cells (opV zeroOp (.slice none 0 0)).toArray 26 (0, 0))) (hNle : wx.heap.size ≤ N) (hb : Below wx.heap.size wx w6) :
    ReadStep x p sx wx A g (w6.setRow N (opV y (.slice A' y.b.length cap')).toArray) N E := by
  have hb7 := below_setRow hb hNle (opV y (.slice A' y.b.length cap')).toArray
  refine ⟨y, A', cap', setRow_heap _ _ _ _ _ _ hr, ?_, ?_, hyd, hE, hye, hNle, hb7⟩
  · rcases hlow with ⟨rfl, h2⟩ | hlow
    · have h3 := hcells.below hb7
      rw [← h2] at h3
      exact h3
    · intro k v hk
      obtain ⟨b, o, e, hcell⟩ := hc k v hk
      refine ⟨b, o, e, ?_⟩
      have hne : b ≠ N := by
        rcases hN with ⟨_, h2, h3⟩ | h1
        · obtain ⟨b', o', e', hcell'⟩ := h3 k v hk
          rw [e] at e'
          injection e' with e'
          injection e' with e1 e2
          have := World.block_lt_of_cell? _ _ hcell'
          simp only at this
          omega
        · have := hlow _ e
          simp only at this
          omega
      rw [cell_setRow_other _ _ _ _ hne]; exact hcell
  · intro a e
    rcases hlow with ⟨rfl, _⟩ | hlow
    · exact hap a e
    · have := hlow a e; omega
set_option maxHeartbeats 4000000 in
set_option maxRecDepth 100000 in
theorem refRead_calls (s : ByteArray) (w : World) (hs : s.size ≤ 8388608) :
    Calls Tryz.prog 8 #[.string s] w fun e w' => ∃ v, e = .returned (.tuple #[v, .int .i64 (readV s.data.toList).2]) ∧ OpVal w' v (readV s.data.toList).1 ∧ Below w.heap.size w w' := by
  have hb0 : Below w.heap.size w (w.alloc (.cells (opV zeroOp (.slice none 0 0)).toArray 26)) := (Below.refl _ _).alloc (Nat.le_refl _) _
  have hr0 : (w.alloc (.cells (opV zeroOp (.slice none 0 0)).toArray 26)).heap[w.heap.size]? = some (.cells (opV zeroOp (.slice none 0 0)).toArray 26 (0, 0)) := World.alloc_heap_new _ _
  have HS := Lib.hid (fun k W h0 h1 => shape_calls k W h0 h1)
  have hne := splitC_ne 32 s.data.toList
  go_enter Tryz.func8, Tryz.ntmps8
  go_upto_region 1 with (fail)
  change Code.wp _ _ _ _ (w.alloc (.cells (opV zeroOp (.slice none 0 0)).toArray 26))
  generalize w.alloc (.cells (opV zeroOp (.slice none 0 0)).toArray 26) = w0 at *
  have HW := Lib.hid (refWords_calls s w0 hs)
  have HB0 := Lib.hid hb0
  have HR0 := Lib.hid hr0
  have hwl : Hid (∀ x ∈ splitC 32 s.data.toList, x.length ≤ 8388608) := words_small s hs
  clear hb0 hr0 hs
  go_wp2_with fail
  refine HW.out.mono ?_
  rintro e w1 ⟨v, rfl, hst, b1⟩
  have hR : Hid (readV s.data.toList = if kindW ((splitC 32 s.data.toList).headD []) = 0 then (zeroOp, 3)
      else if (splitC 32 s.data.toList).length ≠ (partT (kindW ((splitC 32 s.data.toList).headD []))).length + 1 then (zeroOp, 3)
      else takesV (kindOp (kindW ((splitC 32 s.data.toList).headD []))) (partT (kindW ((splitC 32 s.data.toList).headD []))) (splitC 32 s.data.toList).tail) := rfl
  have HB1 := Lib.hid b1
  have hs1 := b1.size
  generalize splitC 32 s.data.toList = L at *
  cases L with
  | nil => exact absurd rfl hne
  | cons x0 r =>
    simp only [List.headD_cons, List.tail_cons, List.length_cons] at hR
    have HST := Lib.hid hst
    obtain ⟨a, c', rfl, hcl⟩ := hst
    obtain ⟨g1, o1, rfl, c0⟩ := hcl 0 x0 rfl
    have HX0 := Lib.hid c0
    have hpos : (0 : Int) < (r.length : Int) + 1 := by omega
    simp only [List.length_cons] at *
    obtain ⟨kk, hkk⟩ : ∃ kk, kindW x0 = kk := ⟨_, rfl⟩
    have hkle := kindW_le x0
    have HKN := Lib.hid (fun k h1 h2 => kind_ne (x0 := x0) (k := k) h1 h2)
    simp only [hkk] at hR hkle HKN
    clear hkk hcl c0 b1 HW
    go_wp2_with fail
    go_loopw [5] (fun c wr => ∃ k : Nat, c = .int .i64 k ∧ 1 ≤ (k : Int) ∧ (k : Int) ≤ 21 ∧ Hid (kk ≠ 0 → k ≤ kk) ∧ Hid (Below w1.heap.size w1 wr)) (fun c _ => 21 - (intOf c).toNat)
    case atStart => exact ⟨1, rfl, by omega, by omega, fun h => by omega, Below.refl _ _⟩
    case round =>
      obtain ⟨k, rfl, hk1, hk21, hkk, hb⟩ := hrel
      have hsz := hb.out.size
      by_cases hlt : (k : Int) ≤ 20
      · have hwi : wordI (k : Int) = wordT k := by unfold wordI; rw [if_pos ⟨hk1, hlt⟩]; rfl
        have hpi : partI (k : Int) = partT k := by unfold partI; rw [if_pos ⟨hk1, hlt⟩]; rfl
        have hsh := HS.out (k : Int) wr (by omega) (by omega)
        rw [hwi, hpi] at hsh
        have HSH := Lib.hid hsh
        have HX0' : Hid (∀ W, Below w1.heap.size w1 W → W.cell? ⟨g1, o1, none⟩ = some (.string ⟨x0.toArray⟩)) := fun W h => (h.cell (p := ⟨g1, o1, none⟩) (World.block_lt_of_cell? _ _ HX0.out)).trans HX0.out
        clear hwi hpi hsh
        by_cases he : wordT k = x0
        · have hq : ((⟨(wordT k).toArray⟩ : ByteArray).toList == x0) = true := by rw [ByteArray.toList_eq, he]; simp
          have hkeq : kk = k := (HKN.out k (by omega) (by omega)).1 he
          subst hkeq
          have HE := Lib.hid he
          have HK0 : Hid (kk ≠ 0) := by show kk ≠ 0; omega
          have hpl3 : ((partT kk).length : Int) ≤ 3 := by have := partI_len ⟨kk, by omega⟩; simp only at this; omega
          clear he hkk
          generalize hW : (⟨(wordT kk).toArray⟩ : ByteArray) = WK at *
          generalize hPB : (⟨((partT kk).map letT).toArray⟩ : ByteArray) = PB at *
          have hPBs : PB.size = (partT kk).length := by rw [← hPB]; show ((partT kk).map letT).toArray.size = _; simp
          have hPBi : ∀ (j p : Nat), (partT kk)[j]? = some p → ∀ h : j < PB.size, (PB[j]'h).toNat = (letT p).toNat := by
            subst hPB
            intro j p hp h
            have e : ((partT kk).map letT)[j]? = some (letT p) := by rw [List.getElem?_map, hp]; rfl
            obtain ⟨h', e'⟩ := List.getElem?_eq_some_iff.1 e
            rw [← e']; rfl
          have HPBI := Lib.hid hPBi
          have HPBS := Lib.hid hPBs
          have hps3 : (PB.size : Int) ≤ 3 := by omega
          clear hW hPB hPBi hPBs
          by_cases hl : r.length = (partT kk).length
          · have hl1 : (((r.length : Int) + 1) != (PB.size : Int) + 1) = false := by have := HPBS.out; simp; omega
            have hlr : (r.length : Int) ≤ 3 := by omega
            have HL := Lib.hid hl
            have HRR : Hid (readV s.data.toList = takesV (kindOp kk) (partT kk) r) := by rw [hR.out, if_neg HK0.out, if_neg (by omega)]; exact rfl
            clear hl hR
            go_upto_region 10 with (first | (go_at_call 22; refine HSH.out.mono ?_; rintro e w2 ⟨rfl, hb2⟩; have HB2 : Hid (Below w1.heap.size w1 w2) := hb.out.trans (hb2.mono hsz); have hc0 := HX0'.out w2 HB2.out; clear hb2) | ((with_reducible apply wpList_build_kind); rfl) | ((with_reducible apply wpList_store_op w2.heap.size (c0 := opV zeroOp (.slice none 0 0))); (case hy => rfl); (case hx => rfl); (case hf => exact kindOp_len _); (case hf0 => exact kindOp_len 0); (case h1 => simp [Value.oneCell', opV, digV]); (case hg => exact World.alloc_heap_new _ _)))
            have hra : (w2.alloc (.cells (opV zeroOp (.slice none 0 0)).toArray 26)).heap[w2.heap.size]? = some (.cells (opV zeroOp (.slice none 0 0)).toArray 26 (0, 0)) := World.alloc_heap_new _ _
            have hrx := setRow_heap _ _ _ (opV (kindOp kk) (.slice none 0 0)).toArray _ _ hra
            have hbx : Below w2.heap.size w2 ((w2.alloc (.cells (opV zeroOp (.slice none 0 0)).toArray 26)).setRow w2.heap.size (opV (kindOp kk) (.slice none 0 0)).toArray) := below_setRow ((Below.refl _ _).alloc (Nat.le_refl _) _) (Nat.le_refl _) _
            change Code.wp _ _ _ _ ((w2.alloc (.cells (opV zeroOp (.slice none 0 0)).toArray 26)).setRow w2.heap.size (opV (kindOp kk) (.slice none 0 0)).toArray)
            generalize (w2.alloc (.cells (opV zeroOp (.slice none 0 0)).toArray 26)).setRow w2.heap.size (opV (kindOp kk) (.slice none 0 0)).toArray = w4 at *
            have hrel0 : TakeRel kk r w2 (readV s.data.toList) w4 0 := ⟨kindOp kk, ⟨⟨none, 0, hrx, fun k v hk => by simp [kindOp, Lib.byteCells] at hk, fun a h => by cases h⟩, zeroD_length⟩, HRR.out.symm, hbx⟩
            have HREL0 := Lib.hid hrel0
            have HB3 : Hid (Below w0.heap.size w0 w2) := HB1.out.trans (HB2.out.mono hs1)
            have hs2 := HB2.out.size
            have HR2 : Hid (w2.heap[w.heap.size]? = some (.cells (opV zeroOp (.slice none 0 0)).toArray 26 (0, 0))) := (HB3.out.block _ (lt_of_block HR0.out)).trans HR0.out
            have hs3 := HB3.out.size
            have HST2 := Lib.hid (HST.out.below HB2.out)
            clear hrx hra hbx hrel0 hl1 hc0
            obtain ⟨res, hres0⟩ : ∃ res, readV s.data.toList = res := ⟨_, rfl⟩
            rw [hres0] at HREL0
            have HRES0 := Lib.hid hres0
            clear hres0
            go_wp2_with fail
            go_loopw [9] (fun c wx => ∃ j : Nat, c = .int .i64 j ∧ (j : Int) ≤ PB.size ∧ Hid (TakeRel kk r w2 res wx j)) (fun c _ => PB.size - (intOf c).toNat)
            case atStart => exact ⟨0, rfl, by omega, HREL0⟩
            case round =>
              obtain ⟨j, rfl, hj, hrel⟩ := hrel
              obtain ⟨x, hx, hres, hb4⟩ := hrel.out
              have HB4 := Lib.hid hb4
              by_cases hltj : (j : Int) < PB.size
              · have hjs : j < PB.size := by omega
                obtain ⟨p, hp⟩ : ∃ p, (partT kk)[j]? = some p := ⟨_, List.getElem?_eq_getElem (by have := HPBS.out; omega)⟩
                obtain ⟨sx, hsx⟩ : ∃ sx, r[j]? = some sx := ⟨_, List.getElem?_eq_getElem (by have := HL.out; have := HPBS.out; omega)⟩
                have hp5 : p ≤ 5 := by
                  have := letT_le ⟨kk, by omega⟩ p (List.mem_of_getElem? hp)
                  exact this
                have hpb := HPBI.out j p hp hjs
                obtain ⟨a', c1', ea, hcl⟩ := HST2.out.below hb4
                obtain ⟨g1', o1', ea', hc3⟩ := hcl (j + 1) sx hsx
                obtain ⟨rfl, rfl⟩ : g1 = g1' ∧ o1 = o1' := by
                  injection ea with ea _ _
                  rw [ea'] at ea
                  injection ea with ea
                  injection ea with e1 e2
                  exact ⟨e1, e2⟩
                have hsl : sx.length ≤ 8388608 := hwl.out sx (List.mem_cons_of_mem _ (List.mem_of_getElem? hsx))
                obtain ⟨⟨A, cap, hrow, hcells, hap⟩, hd⟩ := hx
                rw [takes_step x j p sx hp hsx] at hres
                have HRES := Lib.hid hres
                have hkl : (j : Int) + 1 < (r.length : Int) + 1 := by have := HL.out; have := HPBS.out; omega
                obtain ⟨fs, hu⟩ := Go.Proofs.YtjplfkcelkijfaaGreatDoor.u26
                have HU := Lib.hid hu
                have HRG := Lib.hid (rangeAt_of_row hrow)
                have HROW := Lib.hid hrow
                have HL38 := Lib.hid (opV_length x (.slice A x.b.length cap) hd)
                have HC3 : Hid (∀ W, Below wr.heap.size wr W → W.cell? ⟨g1, o1 + (j + 1), none⟩ = some (.string ⟨sx.toArray⟩)) := fun W h => (h.cell (p := ⟨g1, o1 + (j + 1), none⟩) (World.block_lt_of_cell? _ _ hc3)).trans hc3
                have HD := Lib.hid hd
                have HCELLS := Lib.hid hcells
                have HAP := Lib.hid hap
                have HSX : Hid ((⟨sx.toArray⟩ : ByteArray).size ≤ 8388608) := by show sx.toArray.size ≤ _; simpa using hsl
                have HP5 := Lib.hid hp5
                have HLT := Lib.hid (lt_of_block hrow)
                clear ea ea' hcl hsx hp hsl hres hrel hrow hcells hap hd hu hc3 hp5 hb4
                go_upto_region 13 with (fail)
                go_cut [10, 11] from 43 to 55 (fun q e wc => ∃ (N : Nat) (E : Int), q = .pointer (some ⟨N, 0, none⟩) ∧ e = .int .i64 E ∧ Hid (ReadStep x p sx wr A w2.heap.size wc N E))
                case first =>
                  have hS0 : Below wr.heap.size wr wr.drew := (Below.refl _ _).drew
                  refine wp_region_held_drew (S := fun W : World => Below wr.heap.size wr W) (by kernel_rfl) hS0 (fun hHeld => ?_)
                  refine wpAnyH_take (i := 0) (v := .agg (opV x (.slice A x.b.length cap)).toArray) rfl (by kernel_rfl) (by kernel_rfl) (by kernel_rfl) (fun _ _ _ h => h) (yieldsIf_load_mid (by rfl) 26 _ rfl w2.heap.size 0 rfl (opV x (.slice A x.b.length cap)) _ (fun W h => rangeAt_below HRG.out h) HU.out rfl (by rw [size26, HL38.out])) hHeld ?_
                  try simp only [List.getElem_toArray, List.getElem_cons_succ, List.getElem_cons_zero, Act.put, List.setIfInBounds_toArray, List.set_cons_zero, List.set_cons_succ]
                  refine wpAnyH_take (i := 1) (v := .string PB) rfl (by kernel_rfl) (by kernel_rfl) (by kernel_rfl) (fun _ _ _ h => h) (Or.inl ⟨by rfl, fun W h => (by clear h hHeld; go_simp)⟩) hHeld ?_
                  try simp only [List.getElem_toArray, List.getElem_cons_succ, List.getElem_cons_zero, Act.put, List.setIfInBounds_toArray, List.set_cons_zero, List.set_cons_succ]
                  refine wpAnyH_take (i := 2) (v := .int .i64 j) rfl (by kernel_rfl) (by kernel_rfl) (by kernel_rfl) (fun _ _ _ h => h) (Or.inl ⟨by rfl, fun W h => (by clear h hHeld; go_simp)⟩) hHeld ?_
                  try simp only [List.getElem_toArray, List.getElem_cons_succ, List.getElem_cons_zero, Act.put, List.setIfInBounds_toArray, List.set_cons_zero, List.set_cons_succ]
                  refine wpAnyH_take (i := 3) (v := .int .u8 (letT p).toNat) rfl (by kernel_rfl) (by kernel_rfl) (by kernel_rfl) (fun _ _ _ h => h) (Or.inl ⟨by rfl, fun W h => (by clear h hHeld; go_simp)⟩) hHeld ?_
                  try simp only [List.getElem_toArray, List.getElem_cons_succ, List.getElem_cons_zero, Act.put, List.setIfInBounds_toArray, List.set_cons_zero, List.set_cons_succ]
                  refine wpAnyH_take (i := 4) (v := .slice (some ⟨g1, o1, none⟩) (r.length + 1) c') rfl (by kernel_rfl) (by kernel_rfl) (by kernel_rfl) (fun _ _ _ h => h) (Or.inl ⟨by rfl, fun W h => (by clear h hHeld; go_simp)⟩) hHeld ?_
                  try simp only [List.getElem_toArray, List.getElem_cons_succ, List.getElem_cons_zero, Act.put, List.setIfInBounds_toArray, List.set_cons_zero, List.set_cons_succ]
                  refine wpAnyH_take (i := 5) (v := .int .i64 j) rfl (by kernel_rfl) (by kernel_rfl) (by kernel_rfl) (fun _ _ _ h => h) (Or.inl ⟨by rfl, fun W h => (by clear h hHeld; go_simp)⟩) hHeld ?_
                  try simp only [List.getElem_toArray, List.getElem_cons_succ, List.getElem_cons_zero, Act.put, List.setIfInBounds_toArray, List.set_cons_zero, List.set_cons_succ]
                  refine wpAnyH_take (i := 6) (v := .int .i64 ((j : Int) + 1)) rfl (by kernel_rfl) (by kernel_rfl) (by kernel_rfl) (fun _ _ _ h => h) (Or.inl ⟨by rfl, fun W h => (by have hwr := IntWalk.i64_in ((j : Int) + 1) (by omega); clear h hHeld; go_simp)⟩) hHeld ?_
                  try simp only [List.getElem_toArray, List.getElem_cons_succ, List.getElem_cons_zero, Act.put, List.setIfInBounds_toArray, List.set_cons_zero, List.set_cons_succ]
                  refine wpAnyH_take (i := 7) (v := .pointer (some ⟨g1, o1 + (j + 1), none⟩)) rfl (by kernel_rfl) (by kernel_rfl) (by kernel_rfl) (fun _ _ _ h => h) (Or.inl ⟨by rfl, fun W h => (by have h0j : 0 ≤ (j : Int) + 1 := (by omega); have htn : ((j : Int) + 1).toNat = j + 1 := (by omega); have hnn : ¬ ((j : Int) + 1 < 0) := (by omega); clear h hHeld; go_simp)⟩) hHeld ?_
                  try simp only [List.getElem_toArray, List.getElem_cons_succ, List.getElem_cons_zero, Act.put, List.setIfInBounds_toArray, List.set_cons_zero, List.set_cons_succ]
                  refine wpAnyH_take (i := 8) (v := .string ⟨sx.toArray⟩) rfl (by kernel_rfl) (by kernel_rfl) (by kernel_rfl) (fun _ _ _ h => h) (Or.inl ⟨by rfl, fun W h => (by have := HC3.out W h; clear h hHeld; go_simp)⟩) hHeld ?_
                  try simp only [List.getElem_toArray, List.getElem_cons_succ, List.getElem_cons_zero, Act.put, List.setIfInBounds_toArray, List.set_cons_zero, List.set_cons_succ]
                  refine wpAnyH_ready (rs := [9, 13]) (by kernel_rfl) (by simp) (AllReadyH.cons rfl (fun K hK => ?callF) (AllReadyH.cons rfl (fun K hK => ?allocF) AllReadyH.nil))
                  case callF =>
                    have hSW := hS0
                    go_simp
                    go_at_call 23
                    refine (refTake_calls x A cap p ⟨sx.toArray⟩ _ HD.out (HCELLS.out.below hSW) HSX.out HP5.out).mono ?_
                    rintro e w5 ⟨v, y, rfl, ⟨A', cap', rfl, hc', hlow⟩, hyd, hye, hb5⟩
                    rw [show (⟨sx.toArray⟩ : ByteArray).data.toList = sx by simp] at hye ⊢
                    have hS5 : Below wr.heap.size wr w5 := hSW.trans (hb5.mono hSW.size)
                    have HYD := Lib.hid hyd
                    have HYE := Lib.hid hye
                    have HC' := Lib.hid hc'
                    have HLOW := Lib.hid hlow
                    clear hyd hye hc' hlow
                    obtain ⟨E, hEE⟩ : ∃ E, E = (takeV x p sx).2 := ⟨_, rfl⟩
                    rw [← hEE] at HYE ⊢
                    have HEE := Lib.hid hEE
                    clear hEE
                    go_simp
                    refine hK.out _ _ hS5 (fun hHeld => ?_)
                    clear hK K
                    refine wpAnyH_take (i := 10) (v := .tuple #[.agg (opV y (.slice A' y.b.length cap')).toArray, .int .i64 E]) rfl (by kernel_rfl) (by kernel_rfl) (by kernel_rfl) (fun _ _ _ h => h) (Or.inl ⟨by rfl, fun W h => (by clear h hHeld; go_simp)⟩) hHeld ?_
                    try simp only [List.getElem_toArray, List.getElem_cons_succ, List.getElem_cons_zero, Act.put, List.setIfInBounds_toArray, List.set_cons_zero, List.set_cons_succ]
                    refine wpAnyH_take (i := 11) (v := .agg (opV y (.slice A' y.b.length cap')).toArray) rfl (by kernel_rfl) (by kernel_rfl) (by kernel_rfl) (fun _ _ _ h => h) (Or.inl ⟨by rfl, fun W h => (by clear h hHeld; go_simp)⟩) hHeld ?_
                    try simp only [List.getElem_toArray, List.getElem_cons_succ, List.getElem_cons_zero, Act.put, List.setIfInBounds_toArray, List.set_cons_zero, List.set_cons_succ]
                    refine wpAnyH_take (i := 12) (v := .int .i64 E) rfl (by kernel_rfl) (by kernel_rfl) (by kernel_rfl) (fun _ _ _ h => h) (Or.inl ⟨by rfl, fun W h => (by clear h hHeld; go_simp)⟩) hHeld ?_
                    try simp only [List.getElem_toArray, List.getElem_cons_succ, List.getElem_cons_zero, Act.put, List.setIfInBounds_toArray, List.set_cons_zero, List.set_cons_succ]
                    refine wpAnyH_ready (rs := [13]) (by kernel_rfl) (by simp) (AllReadyH.cons rfl (fun K hK => ?_) AllReadyH.nil)
                    go_simp
                    have hS6 : Below wr.heap.size wr (w5.alloc (.cells (opV zeroOp (.slice none 0 0)).toArray 26)) := hS5.alloc hS5.size _
                    have hrN : (w5.alloc (.cells (opV zeroOp (.slice none 0 0)).toArray 26)).heap[w5.heap.size]? = some (.cells (opV zeroOp (.slice none 0 0)).toArray 26 (0, 0)) := World.alloc_heap_new _ _
                    have hNle : wr.heap.size ≤ w5.heap.size := hS5.size
                    refine hK.out _ _ hS6 (fun hHeld => ?_)
                    clear hK K
                    try simp only [List.getElem_toArray, List.getElem_cons_succ, List.getElem_cons_zero, Act.put, List.setIfInBounds_toArray, List.set_cons_zero, List.set_cons_succ]
                    refine wpAnyH_ready (rs := [14]) (by kernel_rfl) (by simp) (AllReadyH.cons rfl (fun K hK => ?_) AllReadyH.nil)
                    rw [if_pos (by rfl)]
                    refine wp_store_row 26 (.tmp 10) (.tmp 54) rfl w5.heap.size (opV y (.slice A' y.b.length cap')).toArray rfl rfl 26 (opV zeroOp (.slice none 0 0)).toArray hrN (by rw [size26]; simp [opV_length _ _ HYD.out]) (by rw [List.size_toArray, List.size_toArray, opV_length _ _ HYD.out]; exact kindOp_len 0) (opV_one _ _ rfl) ?_
                    have hS7 : Below wr.heap.size wr ((w5.alloc (.cells (opV zeroOp (.slice none 0 0)).toArray 26)).setRow w5.heap.size (opV y (.slice A' y.b.length cap')).toArray) := below_setRow hS6 hNle _
                    have hrow7 := setRow_heap _ _ _ (opV y (.slice A' y.b.length cap')).toArray _ _ hrN
                    refine hK.out _ _ hS7 (fun hHeld => ?_)
                    clear hK K
                    try simp only [List.getElem_toArray, List.getElem_cons_succ, List.getElem_cons_zero, Act.put, List.setIfInBounds_toArray, List.set_cons_zero, List.set_cons_succ]
                    refine wpAnyH_take (i := 15) (v := .int .i64 E) rfl (by kernel_rfl) (by kernel_rfl) (by kernel_rfl) (fun _ _ _ h => h) (Or.inl ⟨by rfl, fun W h => (by clear h hHeld; go_simp)⟩) hHeld ?_
                    try simp only [List.getElem_toArray, List.getElem_cons_succ, List.getElem_cons_zero, Act.put, List.setIfInBounds_toArray, List.set_cons_zero, List.set_cons_succ]
                    refine wpAnyH_done (by kernel_rfl) ?_ _
                    have HFIN : Hid (ReadStep x p sx wr A w2.heap.size ((w5.alloc (.cells (opV zeroOp (.slice none 0 0)).toArray 26)).setRow w5.heap.size (opV y (.slice A' y.b.length cap')).toArray) w5.heap.size E) := readStep_of HYD.out HEE.out HYE.out (HC'.out.below ((Below.refl _ _).alloc (Nat.le_refl _) _)) HLOW.out HLT.out (.inl ⟨hS5.size, rfl, HC'.out⟩) HCELLS.out HAP.out hrN hNle hS6
                    clear hHeld
                    go_wp2_with fail
                    go_meet
                    case rel => exact ⟨_, _, rfl, rfl, HFIN⟩
  
                  case allocF =>
                    go_simp
                    have hSW : Below wr.heap.size wr (wr.drew.alloc (.cells (opV zeroOp (.slice none 0 0)).toArray 26)) := hS0.alloc hS0.size _
                    refine hK.out _ _ hSW (fun hHeld => ?_)
                    clear hK K
                    try simp only [List.getElem_toArray, List.getElem_cons_succ, List.getElem_cons_zero, Act.put, List.setIfInBounds_toArray, List.set_cons_zero, List.set_cons_succ]
                    refine wpAnyH_ready (rs := [9]) (by kernel_rfl) (by simp) (AllReadyH.cons rfl (fun K hK => ?_) AllReadyH.nil)
                    go_simp
                    go_at_call 23
                    refine (refTake_calls x A cap p ⟨sx.toArray⟩ _ HD.out (HCELLS.out.below hSW) HSX.out HP5.out).mono ?_
                    rintro e w5 ⟨v, y, rfl, ⟨A', cap', rfl, hc', hlow⟩, hyd, hye, hb5⟩
                    rw [show (⟨sx.toArray⟩ : ByteArray).data.toList = sx by simp] at hye ⊢
                    have hS5 : Below wr.heap.size wr w5 := hSW.trans (hb5.mono hSW.size)
                    have HYD := Lib.hid hyd
                    have HYE := Lib.hid hye
                    have HC' := Lib.hid hc'
                    have HLOW := Lib.hid hlow
                    clear hyd hye hc' hlow
                    obtain ⟨E, hEE⟩ : ∃ E, E = (takeV x p sx).2 := ⟨_, rfl⟩
                    rw [← hEE] at HYE ⊢
                    have HEE := Lib.hid hEE
                    clear hEE
                    go_simp
                    refine hK.out _ _ hS5 (fun hHeld => ?_)
                    clear hK K
                    refine wpAnyH_take (i := 10) (v := .tuple #[.agg (opV y (.slice A' y.b.length cap')).toArray, .int .i64 E]) rfl (by kernel_rfl) (by kernel_rfl) (by kernel_rfl) (fun _ _ _ h => h) (Or.inl ⟨by rfl, fun W h => (by clear h hHeld; go_simp)⟩) hHeld ?_
                    try simp only [List.getElem_toArray, List.getElem_cons_succ, List.getElem_cons_zero, Act.put, List.setIfInBounds_toArray, List.set_cons_zero, List.set_cons_succ]
                    refine wpAnyH_take (i := 11) (v := .agg (opV y (.slice A' y.b.length cap')).toArray) rfl (by kernel_rfl) (by kernel_rfl) (by kernel_rfl) (fun _ _ _ h => h) (Or.inl ⟨by rfl, fun W h => (by clear h hHeld; go_simp)⟩) hHeld ?_
                    try simp only [List.getElem_toArray, List.getElem_cons_succ, List.getElem_cons_zero, Act.put, List.setIfInBounds_toArray, List.set_cons_zero, List.set_cons_succ]
                    refine wpAnyH_take (i := 12) (v := .int .i64 E) rfl (by kernel_rfl) (by kernel_rfl) (by kernel_rfl) (fun _ _ _ h => h) (Or.inl ⟨by rfl, fun W h => (by clear h hHeld; go_simp)⟩) hHeld ?_
                    try simp only [List.getElem_toArray, List.getElem_cons_succ, List.getElem_cons_zero, Act.put, List.setIfInBounds_toArray, List.set_cons_zero, List.set_cons_succ]
                    have hS6 := hS5
                    have hrN : w5.heap[wr.heap.size]? = some (.cells (opV zeroOp (.slice none 0 0)).toArray 26 (0, 0)) := (hb5.block wr.heap.size (by simp)).trans (World.alloc_heap_new wr.drew _)
                    have hNle : wr.heap.size ≤ wr.heap.size := Nat.le_refl _
                    refine wpAnyH_ready (rs := [14]) (by kernel_rfl) (by simp) (AllReadyH.cons rfl (fun K hK => ?_) AllReadyH.nil)
                    rw [if_pos (by rfl)]
                    refine wp_store_row 26 (.tmp 10) (.tmp 54) rfl wr.heap.size (opV y (.slice A' y.b.length cap')).toArray rfl rfl 26 (opV zeroOp (.slice none 0 0)).toArray hrN (by rw [size26]; simp [opV_length _ _ HYD.out]) (by rw [List.size_toArray, List.size_toArray, opV_length _ _ HYD.out]; exact kindOp_len 0) (opV_one _ _ rfl) ?_
                    have hS7 : Below wr.heap.size wr (w5.setRow wr.heap.size (opV y (.slice A' y.b.length cap')).toArray) := below_setRow hS6 hNle _
                    have hrow7 := setRow_heap _ _ _ (opV y (.slice A' y.b.length cap')).toArray _ _ hrN
                    refine hK.out _ _ hS7 (fun hHeld => ?_)
                    clear hK K
                    try simp only [List.getElem_toArray, List.getElem_cons_succ, List.getElem_cons_zero, Act.put, List.setIfInBounds_toArray, List.set_cons_zero, List.set_cons_succ]
                    refine wpAnyH_take (i := 15) (v := .int .i64 E) rfl (by kernel_rfl) (by kernel_rfl) (by kernel_rfl) (fun _ _ _ h => h) (Or.inl ⟨by rfl, fun W h => (by clear h hHeld; go_simp)⟩) hHeld ?_
                    try simp only [List.getElem_toArray, List.getElem_cons_succ, List.getElem_cons_zero, Act.put, List.setIfInBounds_toArray, List.set_cons_zero, List.set_cons_succ]
                    refine wpAnyH_done (by kernel_rfl) ?_ _
                    have HFIN : Hid (ReadStep x p sx wr A w2.heap.size (w5.setRow wr.heap.size (opV y (.slice A' y.b.length cap')).toArray) wr.heap.size E) := readStep_of (w5 := w5) HYD.out HEE.out HYE.out HC'.out HLOW.out (by have := HLT.out; simp; omega) (.inr (by simp)) HCELLS.out HAP.out hrN hNle hS6
                    clear hHeld
                    go_wp2_with fail
                    go_meet
                    case rel => exact ⟨_, _, rfl, rfl, HFIN⟩
  
                case rest =>
                  obtain ⟨N, E, rfl, rfl, hstep⟩ := hcut
                  obtain ⟨y, A', cap', hrN, hcN, hapN, hyd, hE, hye, hNle, hbc⟩ := hstep.out
                  have hbc4 := HB4.out.trans (hbc.mono HB4.out.size)
                  have HBC4 := Lib.hid hbc4
                  have hr5 := (hbc4.block _ (lt_of_block HR2.out)).trans HR2.out
                  have HR5 := Lib.hid hr5
                  have HRN := Lib.hid hrN
                  have HCN := Lib.hid hcN
                  have HAPN := Lib.hid hapN
                  have HYD := Lib.hid hyd
                  have HYE := Lib.hid hye
                  have HLY := Lib.hid (opV_length y (.slice A' y.b.length cap') hyd)
                  have hg8 := (hbc.block _ HLT.out).trans HROW.out
                  have HG8 := Lib.hid hg8
                  have hNlt : w2.heap.size < N := by have := HLT.out; omega
                  have HRES2 : Hid ((if E ≠ 0 then (zeroOp, E) else takesV (takeV x p sx).1 ((partT kk).drop (j + 1)) (r.drop (j + 1))) = res) := by
                    have := HRES.out
                    rw [← hE] at this
                    exact this
                  clear hstep hrN hcN hapN hyd hE hye hbc hbc4 hr5 hg8
                  by_cases he : E = 0
                  · have hq : ((E : Int) != 0) = false := by rw [he]; rfl
                    have HEE := Lib.hid he
                    clear he
                    go_wp2_with (first | ((with_reducible apply wpList_load_opG N (opV y (.slice A' y.b.length cap'))); rfl; exact rangeAt_of_row HRN.out; exact HLY.out; rfl) | ((with_reducible apply wpList_store_op w2.heap.size (cs := opV y (.slice A' y.b.length cap')) (c0 := opV x (.slice A x.b.length cap))); (case hy => rfl); (case hx => rfl); (case hf => exact HLY.out); (case hf0 => exact HL38.out); (case h1 => exact opV_one _ _ rfl); (case hg => exact HG8.out)))
                    go_roundw
                    case measure => simp [intOf]; omega
                    case rel =>
                      refine ⟨j + 1, by go_num, by omega, ⟨y, ⟨⟨A', cap', setRow_heap _ _ _ _ _ _ HG8.out, ?_, HAPN.out⟩, HYD.out⟩, ?_, below_setRow HBC4.out (Nat.le_refl _) _⟩⟩
                      · intro i u hu
                        obtain ⟨b, o, e, hcell⟩ := HCN.out i u hu
                        refine ⟨b, o, e, ?_⟩
                        have := HAPN.out _ e
                        rw [cell_setRow_other _ _ _ _ (by show b ≠ w2.heap.size; simp only at this; omega)]; exact hcell
                      · rw [← HRES2.out, if_neg (by rw [HEE.out]; simp), HYE.out HEE.out]
                  · have hq : ((E : Int) != 0) = true := by simpa using he
                    have HEE := Lib.hid he
                    have hzl : (opV zeroOp (.slice none 0 0)).length = 38 := kindOp_len 0
                    clear he
                    go_wp2_with (first | ((with_reducible apply wpList_store_op w.heap.size (c0 := opV zeroOp (.slice none 0 0))); (case hy => rfl); (case hx => rfl); (case hf => rfl); (case hf0 => exact hzl); (case h1 => simp [Value.oneCell']); (case hg => exact HR5.out)))
                    refine bodyPost_ret_by (results_op rfl _ _ w.heap.size (opV zeroOp (.slice none 0 0)) _ hzl rfl (setRow_heap _ _ _ (opV zeroOp (.slice none 0 0)).toArray _ _ HR5.out) rfl) rfl ?_
                    rw [HRES0.out, ← HRES2.out, if_pos HEE.out]
                    exact ⟨_, rfl, ⟨none, 0, rfl, fun k v hk => by simp [zeroOp, Lib.byteCells] at hk⟩, below_setRow (HB0.out.trans ((HB3.out.trans (HBC4.out.mono hs3)).mono HB0.out.size)) (Nat.le_refl _) _⟩
              · rw [takes_end x (by have := HPBS.out; omega)] at hres
                have HRES := Lib.hid hres
                have hr5 := (hb4.block _ (lt_of_block HR2.out)).trans HR2.out
                obtain ⟨⟨A, cap, hrow, hcells, hap⟩, hd⟩ := hx
                have HRG := Lib.hid (rangeAt_of_row hrow)
                have HCELLS := Lib.hid hcells
                have HAP := Lib.hid hap
                have HR5 := Lib.hid hr5
                have HL38 := Lib.hid (opV_length x (.slice A x.b.length cap) hd)
                have hn0 := lt_of_block HR2.out
                clear hres hb4 hrel hrow hcells hap hr5
                go_wp2_with (first | ((with_reducible apply wpList_load_opG w2.heap.size (opV x (.slice A x.b.length cap))); rfl; exact HRG.out; exact HL38.out; rfl) | ((with_reducible apply wpList_store_op w.heap.size (cs := opV x (.slice A x.b.length cap)) (c0 := opV zeroOp (.slice none 0 0))); (case hy => rfl); (case hx => rfl); (case hf => exact HL38.out); (case hf0 => exact kindOp_len 0); (case h1 => exact opV_one _ _ rfl); (case hg => exact HR5.out)))
                refine bodyPost_ret_by (results_op rfl _ _ w.heap.size (opV x (.slice A x.b.length cap)) _ HL38.out rfl (setRow_heap _ _ _ (opV x (.slice A x.b.length cap)).toArray _ _ HR5.out) rfl) rfl ?_
                rw [HRES0.out, ← HRES.out]
                refine ⟨_, rfl, ⟨A, cap, rfl, ?_⟩, below_setRow (HB0.out.trans ((HB3.out.trans (HB4.out.mono hs3)).mono HB0.out.size)) (Nat.le_refl _) _⟩
                intro i u hu
                obtain ⟨b, o, e, hcell⟩ := HCELLS.out i u hu
                refine ⟨b, o, e, ?_⟩
                have := HAP.out _ e
                rw [cell_setRow_other _ _ _ _ (by show b ≠ w.heap.size; simp only at this; omega)]; exact hcell
          · have hl1 : (((r.length : Int) + 1) != (PB.size : Int) + 1) = true := by have := HPBS.out; simp; omega
            have HRR : Hid (readV s.data.toList = (zeroOp, 3)) := by rw [hR.out, if_neg HK0.out, if_pos (by omega)]; exact rfl
            have hzl : (opV zeroOp (.slice none 0 0)).length = 38 := kindOp_len 0
            clear hl hR
            go_wp2_with (first | (go_at_call 22; refine HSH.out.mono ?_; rintro e w2 ⟨rfl, hb2⟩; have HB2 : Hid (Below w1.heap.size w1 w2) := hb.out.trans (hb2.mono hsz); have hc0 := HX0'.out w2 HB2.out; have hr2 := ((HB1.out.trans (HB2.out.mono hs1)).block w.heap.size (lt_of_block HR0.out)).trans HR0.out; clear hb2) | ((with_reducible apply wpList_store_op w.heap.size (c0 := opV zeroOp (.slice none 0 0))); (case hy => rfl); (case hx => rfl); (case hf => rfl); (case hf0 => exact hzl); (case h1 => simp [Value.oneCell']); (case hg => exact hr2)))
            refine bodyPost_ret_by (results_op rfl _ _ w.heap.size (opV zeroOp (.slice none 0 0)) _ hzl rfl (setRow_heap _ _ _ (opV zeroOp (.slice none 0 0)).toArray _ _ hr2) rfl) rfl ?_
            rw [HRR.out]
            exact ⟨_, rfl, ⟨none, 0, rfl, fun k v hk => by simp [zeroOp, Lib.byteCells] at hk⟩, below_setRow (HB0.out.trans ((HB1.out.trans (HB2.out.mono hs1)).mono HB0.out.size)) (Nat.le_refl _) _⟩
        · have hq : ((⟨(wordT k).toArray⟩ : ByteArray).toList == x0) = false := by
            rw [beq_eq_false_iff_ne, ByteArray.toList_eq]
            simpa using he
          have HKK : Hid (kk ≠ 0 → k + 1 ≤ kk) := fun h => by
            have h1 := hkk.out h
            have h2 : kk ≠ k := fun e => he ((HKN.out k (by omega) (by omega)).2 e)
            omega
          clear he hkk
          generalize hW : (⟨(wordT k).toArray⟩ : ByteArray) = WK at *
          clear hW
          go_wp2_with (first | (go_at_call 22; refine HSH.out.mono ?_; rintro e w2 ⟨rfl, hb2⟩; have HB2 : Hid (Below w1.heap.size w1 w2) := hb.out.trans (hb2.mono hsz); have hc0 := HX0'.out w2 HB2.out; clear hb2))
          go_roundw
          case measure => simp [intOf]; omega
          case rel => exact ⟨k + 1, by go_num, by omega, by omega, HKK, HB2⟩
      · have hk0 : kk = 0 := by
          have := hkk.out
          omega
        have HRR : Hid (readV s.data.toList = (zeroOp, 3)) := by rw [hR.out, if_pos hk0]; exact rfl
        have hr2 := (((HB1.out.trans (hb.out.mono hs1))).block w.heap.size (lt_of_block HR0.out)).trans HR0.out
        have HBE := Lib.hid (HB0.out.trans ((HB1.out.trans (hb.out.mono hs1)).mono HB0.out.size))
        have hzl : (opV zeroOp (.slice none 0 0)).length = 38 := kindOp_len 0
        clear hkk hb hk0 hR
        go_wp2_with (first | ((with_reducible apply wpList_store_op w.heap.size (c0 := opV zeroOp (.slice none 0 0))); (case hy => rfl); (case hx => rfl); (case hf => rfl); (case hf0 => exact hzl); (case h1 => simp [Value.oneCell']); (case hg => exact hr2)))
        refine bodyPost_ret_by (results_op rfl _ _ w.heap.size (opV zeroOp (.slice none 0 0)) _ hzl rfl (setRow_heap _ _ _ (opV zeroOp (.slice none 0 0)).toArray _ _ hr2) rfl) rfl ?_
        rw [HRR.out]
        exact ⟨_, rfl, ⟨none, 0, rfl, fun k v hk => by simp [zeroOp, Lib.byteCells] at hk⟩, below_setRow HBE.out (Nat.le_refl _) _⟩
end Go.Proofs.YtjplfkcelkijfaaGreatDoor
