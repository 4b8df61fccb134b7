/- hex.Read: which bytes a text tells. Condition: texts of at most 140737488351232 bytes. -/
import Derived.Lib.OthersKept
import Derived.Laws.MakeOwn
import Derived.Test.YtjplfkcelkijfaaGreatDoorHxL
namespace Go.Proofs.YtjplfkcelkijfaaGreatDoor
open Go.RowKit
def figU (c : UInt8) : Nat := figN (c.toNat : Int)
def hexOk (l : List UInt8) : Bool := l.all (fun c => decide (figU c < 16)) && decide (l.length % 2 = 0)
def hexP (l : List UInt8) : List UInt8 := (List.range (l.length / 2)).map fun j => UInt8.ofNat (16 * figU (l.getD (2 * j) 0) + figU (l.getD (2 * j + 1) 0))
theorem figU_lt128 {c : UInt8} (h : figU c < 16) : c.toNat < 128 := by
  unfold figU figN at h
  by_cases h1 : 48 ≤ (c.toNat : Int) ∧ (c.toNat : Int) ≤ 57
  · omega
  · rw [if_neg h1] at h
    by_cases h2 : 97 ≤ (c.toNat : Int) ∧ (c.toNat : Int) ≤ 102
    · omega
    · rw [if_neg h2] at h; omega
theorem figN_big {r : Int} (h : 128 ≤ r) : figN r = 16 := by
  unfold figN
  rw [if_neg (by omega), if_neg (by omega)]
theorem figOk_no (s : ByteArray) (k : Nat) (h : k < s.size) (hf : ¬ figU (s[k]'h) < 16) : figOk ((Utf8.decode s k).1 : Int) = false := by
  unfold figOk
  refine decide_eq_false ?_
  by_cases ha : (s[k]'h).toNat < 128
  · rw [decode_ascii s k h ha]; exact hf
  · rw [figN_big (by have := (decode_high s k h (by omega)).1; omega)]; omega
theorem take_getD {l : List UInt8} {k j : Nat} (h : j < k) : (l.take k).getD j 0 = l.getD j 0 := by
  rw [List.getD_eq_getElem?_getD, List.getD_eq_getElem?_getD, List.getElem?_take, if_pos h]
theorem hexP_take {l : List UInt8} {k : Nat} (hk : k ≤ l.length) : hexP (l.take k) = (List.range (k / 2)).map fun j => UInt8.ofNat (16 * figU (l.getD (2 * j) 0) + figU (l.getD (2 * j + 1) 0)) := by
  unfold hexP
  rw [List.length_take, Nat.min_eq_left hk]
  refine List.map_congr_left fun j hj => ?_
  have := List.mem_range.1 hj
  rw [take_getD (by omega), take_getD (by omega)]
theorem hexP_even {l : List UInt8} {k : Nat} (hk : k < l.length) (h : k % 2 = 0) : hexP (l.take (k + 1)) = hexP (l.take k) := by
  rw [hexP_take (by omega), hexP_take (by omega), show (k + 1) / 2 = k / 2 by omega]
theorem hexP_odd {l : List UInt8} {k : Nat} (hk : k < l.length) (h : k % 2 = 1) : hexP (l.take (k + 1)) = hexP (l.take k) ++ [UInt8.ofNat (16 * figU (l.getD (k - 1) 0) + figU (l.getD k 0))] := by
  rw [hexP_take (by omega), hexP_take (by omega), show (k + 1) / 2 = k / 2 + 1 by omega, List.range_succ, List.map_append]
  rw [List.map_cons, List.map_nil, show 2 * (k / 2) = k - 1 by omega, show k - 1 + 1 = k by omega]
/-- what the figure ahead is worth -/
def prevF (l : List UInt8) (k : Nat) : Int := if k = 0 then 0 else figU (l.getD (k - 1) 0)
theorem prevF_succ {l : List UInt8} {k : Nat} {c : UInt8} (h : l[k]? = some c) : prevF l (k + 1) = figU c := by
  unfold prevF
  rw [if_neg (by omega), Nat.add_sub_cancel, List.getD_eq_getElem?_getD, h]; rfl
theorem ownsRow_same {w w' : World} {base : Nat} {e : TypeId} {z n : Nat} {v : Value} {cs : List Value} (h : w.ownsRow base e z v n cs) (hk : ∀ j, v.ownBlock = some j → w'.heap[j]? = w.heap[j]?) : w'.ownsRow base e z v n cs := by
  obtain ⟨h1, h2⟩ := h
  refine ⟨h1, ?_⟩
  rcases h2 with h2 | ⟨g, cap, cur, rfl, hg, hh, r⟩
  · exact .inl h2
  · exact .inr ⟨g, cap, cur, rfl, hg, (hk g rfl).trans hh, r⟩
theorem iterPos_of {w : World} {g p : Nat} {s : ByteArray} (h : w.heap[g]? = some (.stringIter s p)) : w.iterPos g = p := by
  unfold World.iterPos; rw [h]
theorem ownsRow_not_iter {w : World} {base : Nat} {e : TypeId} {z n g : Nat} {v : Value} {cs : List Value} {s : ByteArray} {p : Nat} (h : w.ownsRow base e z v n cs) (hg : w.heap[g]? = some (.stringIter s p)) : ∀ j, v.ownBlock = some j → j ≠ g := by
  rintro j hj rfl
  rcases h.2 with ⟨rfl, _⟩ | ⟨g', cap, cur, rfl, _, hh, _⟩
  · cases hj
  · obtain rfl : g' = j := by simpa [Value.ownBlock] using hj
    rw [hh] at hg; cases hg
theorem nib : ∀ a b : Fin 16, bits BinOp.or IntKind.u8 ((a.val : Int) * 16 % 256) (b.val : Int) = ((UInt8.ofNat (16 * a.val + b.val)).toNat : Int) := by decide +kernel
theorem nibbles {l : List UInt8} {k : Nat} {c : UInt8} (hp : k % 2 = 1) (hall : (l.take k).all (fun c => decide (figU c < 16)) = true) (hc : l[k]? = some c) (hf : figU c < 16) :
    bits BinOp.or IntKind.u8 (prevF l k * 16 % 256) (figU c) = ((UInt8.ofNat (16 * figU (l.getD (k - 1) 0) + figU (l.getD k 0))).toNat : Int) := by
  have hk := (List.getElem?_eq_some_iff.1 hc).1
  obtain ⟨x, hx⟩ : ∃ x, l[k - 1]? = some x := ⟨_, List.getElem?_eq_getElem (by omega)⟩
  have hx2 : figU x < 16 := by
    have := List.all_eq_true.1 hall x (List.mem_of_getElem? (i := k - 1) (by rw [List.getElem?_take, if_pos (by omega), hx]))
    simpa using this
  have e1 : l.getD (k - 1) 0 = x := by rw [List.getD_eq_getElem?_getD, hx]; rfl
  have e2 : l.getD k 0 = c := by rw [List.getD_eq_getElem?_getD, hc]; rfl
  unfold prevF
  rw [if_neg (by omega), e1, e2]
  exact nib ⟨figU x, hx2⟩ ⟨figU c, hf⟩
/-- what hex.Read answers -/
def HexPost (l : List UInt8) (w : World) (e : Ending) (w' : World) : Prop :=
  ∃ A cap, e = .returned (.tuple #[.slice A (if hexOk l then hexP l else []).length cap, .int .i64 (if hexOk l then 0 else 3)]) ∧ CellsIn w' A (Lib.byteCells (if hexOk l then hexP l else [])) ∧ Below w.heap.size w w' ∧ ∀ a, A = some a → w.heap.size ≤ a.block
theorem HexPost.bad {l : List UInt8} {w w' : World} (h : hexOk l = false) (hb : Below w.heap.size w w') : HexPost l w (.returned (.tuple #[.slice none 0 0, .int .i64 3])) w' := by
  refine ⟨none, 0, by rw [h]; rfl, ?_, hb, fun a e => by cases e⟩
  rw [h]; intro k v hk; simp [Lib.byteCells] at hk
theorem hexOk_bad {l : List UInt8} {c : UInt8} {k : Nat} (h : l[k]? = some c) (hf : ¬ figU c < 16) : hexOk l = false := by
  unfold hexOk
  rw [Bool.and_eq_false_iff]
  left
  rw [List.all_eq_false]
  exact ⟨c, List.mem_of_getElem? h, by simpa using hf⟩
set_option maxHeartbeats 2000000 in
set_option maxRecDepth 100000 in
theorem hexRead_calls (s : ByteArray) (w : World) (hs : s.size ≤ 140737488351232) :
    Calls Tryz.prog 69 #[.string s] w (HexPost s.data.toList w) := by
  obtain ⟨i0, hi, hz0, hz1, hz2⟩ := info_parts infoByte
  have hs' : (s.size : Int) ≤ 140737488351232 := by omega
  have hmk := run_make (P := Tryz.prog) w 24 5 i0 (.int .u8 0) Tryz.underlying24 hi hz0 .i64 .i64 0 ((s.size : Int) / 2) (Int.le_refl _) (by omega) (by rw [hz2]; omega) (by omega)
  have HM := Lib.hid hmk
  clear hmk
  go_enter Tryz.func69, Tryz.ntmps69
  go_wp2_with (rw [HM.out])
  have hsz0 : s.data.toList.length = s.size := by simp
  have HSZ := Lib.hid hsz0
  clear HM hs hsz0
  generalize hcap0 : ((s.size : Int) / 2).toNat = cap0
  have HCAP := Lib.hid (show cap0 = s.size / 2 by omega)
  clear hcap0
  go_loopw [4, 5, 6] (fun v h f wr => ∃ k : Nat, (k : Int) ≤ s.size ∧ wr.heap[w.heap.size + 1]? = some (.stringIter s k) ∧ wr.ownsRow w.heap.size 5 1 v (k / 2) (Lib.byteCells (hexP (s.data.toList.take k))) ∧
    (s.data.toList.take k).all (fun c => decide (figU c < 16)) = true ∧ h = .int .u8 (prevF s.data.toList k) ∧ f = .bool (decide (k % 2 = 1)) ∧ Below w.heap.size w wr) (fun _ _ _ wr => s.size - wr.iterPos (w.heap.size + 1))
  case atStart =>
    refine ⟨0, by omega, ?_, ?_, rfl, rfl, rfl, ((Below.refl _ _).alloc (Nat.le_refl _) _).alloc (by simp) _⟩
    · have := World.iter_heap (w.alloc (Obj.cells (madeCells #[Value.int IntKind.u8 0] (s.size / 2)) 5)) s 0
      simpa using this
    · rw [HCAP.out]
      rw [List.take_zero]
      exact (World.ownsRow_made (size := 1) (e := 5) w (madeCells #[.int .u8 0] (s.size / 2)) (s.size / 2) (Nat.le_refl _) (by unfold maxLen; omega) (by rw [size_madeCells, Nat.mul_one])).alloc _
  case round =>
    obtain ⟨k, hk, hit, hrow, hall, rfl, rfl, hb⟩ := hrel
    have hsz := hb.size
    have hg : w.heap.size + 1 < wr.heap.size := (Array.getElem?_eq_some_iff.1 hit).1
    by_cases hlt : k < s.size
    · obtain ⟨c, hc⟩ : ∃ c, s.data.toList[k]? = some c := ⟨_, List.getElem?_eq_getElem (by rw [HSZ.out]; omega)⟩
      have hsk : s[k]'hlt = c := by
        have h1 := (List.getElem?_eq_some_iff.1 hc).2
        rw [← h1]; simp; rfl
      by_cases hf : figU c < 16
      · have hnx : ∀ ty, (Instr.next (.pointer (some ⟨w.heap.size + 1, 0, none⟩)) true ty).run Tryz.prog wr = .ok (.tuple #[.bool true, .int .i64 k, .int .i32 c.toNat]) (wr.iterAt (w.heap.size + 1) s (k + 1)) := fun ty => by
          have := Lib.run_next_ascii_at (P := Tryz.prog) wr (w.heap.size + 1) s k ty hit hlt (by rw [hsk]; exact figU_lt128 hf)
          rw [this, hsk]
        have H117 : ∀ x, Calls Tryz.prog 90 #[.int .i32 c.toNat] x fun e w' => e = .returned (.tuple #[.int .u8 (figU c), .bool true]) ∧ Below x.heap.size x w' := fun x => by
          have := fig_calls (c.toNat : Int) x
          have e1 : figI (c.toNat : Int) = figU c := by unfold figI; exact if_pos hf
          have e2 : figOk (c.toNat : Int) = true := by unfold figOk; exact decide_eq_true hf
          rw [e1, e2] at this
          exact this
        have H := Lib.hid H117
        have hbb := Lib.hid (Lib.below_iterAt hb (k := w.heap.size + 1) (by omega) s (k + 1))
        have hsi := Lib.hid (Lib.iterAt_size wr (w.heap.size + 1) s (k + 1))
        have hit1 := Lib.iterAt_heap wr (w.heap.size + 1) s k (k + 1) hit
        have hown1 := ownsRow_same hrow (fun j hj => Lib.iterAt_other wr (w.heap.size + 1) j s (k + 1) (ownsRow_not_iter hrow hit j hj))
        have hlt1 := hrow.lt
        have HIT := Lib.hid hit1
        have HIT0 := Lib.hid hit
        have HOWN := Lib.hid hown1
        have HLT := Lib.hid hlt1
        have HK := Lib.hid hlt
        have HG := Lib.hid hg
        have HC := Lib.hid hc
        have HALL := Lib.hid (show (s.data.toList.take (k + 1)).all (fun c => decide (figU c < 16)) = true by
          rw [List.take_add_one, hc, List.all_append, hall]; simp [hf])
        have HPS := Lib.hid (prevF_succ hc)
        rcases Nat.mod_two_eq_zero_or_one k with hp | hp
        · have hdec : decide (k % 2 = 1) = false := by rw [hp]; rfl
          rw [hdec]
          have HPV := Lib.hid (hexP_even (l := s.data.toList) (k := k) (by rw [HSZ.out]; exact hlt) hp)
          have HPK := Lib.hid hp
          clear H117 hc hsk hf hlt hall hrow hit hz1 hz2 hit1 hown1 hlt1 hg hp hdec
          go_wp2_with (go_at_call 90; refine (H.out _).mono ?_; rintro e w2 ⟨rfl, hb2⟩)
          go_roundw
          case rel =>
            refine ⟨k + 1, by have := HK.out; omega, ?_, ?_, HALL.out, by rw [HPS.out], ?_, hbb.out.trans (hb2.mono (by rw [hsi.out]; exact hsz))⟩
            · exact (hb2.block _ (by rw [hsi.out]; exact HG.out)).trans HIT.out
            · rw [HPV.out, show (k + 1) / 2 = k / 2 by have := HPK.out; omega]
              exact ownsRow_same HOWN.out (fun j hj => hb2.block _ (by rw [hsi.out]; exact (HLT.out j hj).2))
            · rw [show decide ((k + 1) % 2 = 1) = true from decide_eq_true (by have := HPK.out; omega)]
          case measure =>
            rw [iterPos_of ((hb2.block _ (by rw [hsi.out]; exact HG.out)).trans HIT.out), iterPos_of HIT0.out]
            have := HK.out
            omega
        · have hdec : decide (k % 2 = 1) = true := by rw [hp]; rfl
          rw [hdec]
          have HPV := Lib.hid (hexP_odd (l := s.data.toList) (k := k) (by rw [HSZ.out]; exact hlt) hp)
          have HV := Lib.hid (nibbles hp hall hc hf)
          have HPK := Lib.hid hp
          have hbase : w.heap.size ≤ (wr.iterAt (w.heap.size + 1) s (k + 1)).heap.size := by rw [hsi.out]; exact hsz
          have hlen : k / 2 + 1 ≤ 140737488351232 := by omega
          have HBS := Lib.hid hbase
          have HLN := Lib.hid hlen
          clear H117 hc hsk hf hlt hall hrow hit hit1 hown1 hlt1 hg hp hdec hbase hlen
          go_wp2_with (first | (go_at_call 90; refine (H.out _).mono ?_; rintro e w2 ⟨rfl, hb2⟩; have hrow2 := ownsRow_same HOWN.out (fun j hj => hb2.block _ (by rw [hsi.out]; exact (HLT.out j hj).2)); have hs2 : w.heap.size ≤ w2.heap.size := Nat.le_trans HBS.out hb2.size) | (at_builtin; refine wpList_append_own _ rfl _ _ 24 rfl w.heap.size 5 i0 (.int .u8 0) 1 1 Tryz.underlying24 hi hz0 hz1 hz2 rfl (by decide) _ _ _ rfl (hrow2.alloc _) ⟨w2.heap.size, 0, none⟩ 1 1 [.int .u8 (bits BinOp.or IntKind.u8 (prevF s.data.toList k * 16 % 256) ↑(figU c))] rfl rfl (cell_one_new _ _ _) (by simp [Value.oneCell']) (by have := HLN.out; unfold maxLen; omega) (by have := HLN.out; omega) (by simp; omega) ?_; intro v' w3 hown' hgrow _; obtain ⟨g', cap', rfl⟩ := ownsRow_succ hown'))
          have hit3 : w3.heap[w.heap.size + 1]? = some (.stringIter s (k + 1)) := by
            have h2 := (hb2.block _ (by rw [hsi.out]; exact HG.out)).trans HIT.out
            have hlt2 : w.heap.size + 1 < w2.heap.size := (Array.getElem?_eq_some_iff.1 h2).1
            rw [hgrow.block _ (by simp; omega) (fun e => ownsRow_not_iter hrow2 h2 _ e.symm rfl), Lib.alloc_old w2 _ _ hlt2]
            exact h2
          have HIT3 := Lib.hid hit3
          have hb3 : Below w.heap.size w w3 := ((hbb.out.trans (hb2.mono HBS.out)).alloc hs2 _).grown hgrow (by simp; omega) (fun r e => (hrow2.lt r e).1)
          have HB3 := Lib.hid hb3
          clear hit3 hb3
          go_roundw
          case rel =>
            refine ⟨k + 1, by have := HK.out; omega, HIT3.out, ?_, HALL.out, by rw [HPS.out], ?_, HB3.out⟩
            · rw [HPV.out, show (k + 1) / 2 = k / 2 + 1 by have := HPK.out; omega, Lib.byteCells, List.map_append, List.map_cons, List.map_nil, ← HV.out]
              exact hown'
            · rw [show decide ((k + 1) % 2 = 1) = false from decide_eq_false (by have := HPK.out; omega)]
          case measure =>
            rw [iterPos_of HIT3.out, iterPos_of HIT0.out]
            have := HK.out
            omega
      · have hnx := fun ty => Lib.run_next_any_at (P := Tryz.prog) wr (w.heap.size + 1) s k ty hit hlt
        have H117 : ∀ x, Calls Tryz.prog 90 #[.int .i32 (Utf8.decode s k).1] x fun e w' => e = .returned (.tuple #[.int .u8 (figI ((Utf8.decode s k).1 : Int)), .bool false]) ∧ Below x.heap.size x w' := fun x => by
          have := fig_calls ((Utf8.decode s k).1 : Int) x
          rw [figOk_no s k hlt (by rw [hsk]; exact hf)] at this
          exact this
        have H := Lib.hid H117
        have HB := Lib.hid (hexOk_bad hc hf)
        have hbb := Lib.hid (Lib.below_iterAt hb (k := w.heap.size + 1) (by omega) s (k + (Utf8.decode s k).2))
        have hsi := Lib.hid (Lib.iterAt_size wr (w.heap.size + 1) s (k + (Utf8.decode s k).2))
        clear H117 hc hsk hf hlt hall hrow hit hz1 hz2
        go_wp2_with (go_at_call 90; refine (H.out _).mono ?_; rintro e w2 ⟨rfl, hb2⟩)
        go_ret2
        exact HexPost.bad HB.out (hbb.out.trans (hb2.mono (by rw [hsi.out]; exact hsz)))
    · obtain rfl : k = s.size := by omega
      have hnx := fun ty => Lib.run_next_end_at (P := Tryz.prog) wr (w.heap.size + 1) s s.size ty hit (by omega)
      have htl : s.data.toList.take s.size = s.data.toList := by rw [← HSZ.out, List.take_length]
      rw [htl] at hall hrow
      rcases Nat.mod_two_eq_zero_or_one s.size with hp | hp
      · have hok : hexOk s.data.toList = true := by
          unfold hexOk
          rw [hall, HSZ.out, hp]; rfl
        have hlw := hrow.lt
        obtain ⟨hn, a, cap', rfl, hC⟩ := cellsIn_of_owns hrow
        have HLW : Hid (∀ ad, a = some ad → w.heap.size ≤ ad.block) := fun ad e => by subst e; exact (hlw _ rfl).1
        clear hlw
        rw [Lib.byteCells_length] at hn
        rw [show decide (s.size % 2 = 1) = false by rw [hp]; rfl]
        have HOK := Lib.hid hok
        have HN := Lib.hid hn
        have HCC := Lib.hid hC
        clear hok hn hC hrow hall htl hp hit hlt hg
        go_wp2
        go_ret2
        refine ⟨a, cap', ?_, ?_, hb, HLW.out⟩
        · rw [HOK.out, if_pos rfl, if_pos rfl, ← HN.out]; rfl
        · rw [HOK.out, if_pos rfl]; exact HCC.out
      · have hok : hexOk s.data.toList = false := by
          unfold hexOk
          rw [hall, HSZ.out, hp]; rfl
        rw [show decide (s.size % 2 = 1) = true by rw [hp]; rfl]
        have HOK := Lib.hid hok
        clear hok hrow hall htl hp hit hlt hg
        go_wp2
        go_ret2
        exact HexPost.bad HOK.out hb
end Go.Proofs.YtjplfkcelkijfaaGreatDoor
