/- The reference's texts of bytes and of digests. Condition: at most 1048576 bytes. -/
import Derived.Deep.RegionHeld3
import Derived.Laws.BytesArg
import Derived.Test.YtjplfkcelkijfaaGreatDoorHxA
namespace Go.Proofs.YtjplfkcelkijfaaGreatDoor
open Go.RowKit
/-- cells that lie in a row, from a slice's place on -/
def CellsIn (w : World) (A : Option Addr) (cs : List Value) : Prop := ∀ k v, cs[k]? = some v → ∃ b o, A = some ⟨b, o, none⟩ ∧ w.cell? ⟨b, o + k, none⟩ = some v
theorem CellsIn.below {w w' : World} {A : Option Addr} {cs : List Value} (h : CellsIn w A cs) (hb : Below w.heap.size w w') : CellsIn w' A cs := fun k v hk => by
  obtain ⟨b, o, rfl, hc⟩ := h k v hk
  exact ⟨b, o, rfl, (hb.cell (p := ⟨b, o + k, none⟩) (World.block_lt_of_cell? _ _ hc)).trans hc⟩
theorem CellsIn.at' {w : World} {b o : Nat} {cs : List Value} {k : Nat} {v : Value} (h : CellsIn w (some ⟨b, o, none⟩) cs) (hk : cs[k]? = some v) : w.cell? ⟨b, o + k, none⟩ = some v := by
  obtain ⟨b', o', e, hc⟩ := h k v hk
  obtain ⟨rfl, rfl⟩ : b = b' ∧ o = o' := by simpa using e
  exact hc
theorem CellsIn.lt {w : World} {b o : Nat} {cs : List Value} {k : Nat} {v : Value} (h : CellsIn w (some ⟨b, o, none⟩) cs) (hk : cs[k]? = some v) : b < w.heap.size := by
  obtain ⟨b', o', e, hc⟩ := h k v hk
  obtain ⟨rfl, rfl⟩ : b = b' ∧ o = o' := by simpa using e
  exact World.block_lt_of_cell? _ _ hc
theorem ownsRow_drew {w : World} {base : Nat} {e : TypeId} {s n : Nat} {v : Value} {cs : List Value} (h : w.ownsRow base e s v n cs) : w.drew.ownsRow base e s v n cs := h
theorem cellsIn_of_range {w : World} {b o : Nat} {cs : List Value} (h : w.rangeAt b o cs) : CellsIn w (some ⟨b, o, none⟩) cs := fun k v hk => ⟨b, o, rfl, h k v hk⟩
theorem cellsIn_of_owns {w : World} {base : Nat} {e : TypeId} {v : Value} {n : Nat} {cs : List Value} (h : w.ownsRow base e 1 v n cs) : n = cs.length ∧ ∃ a cap, v = .slice a n cap ∧ CellsIn w a cs := by
  obtain ⟨h1, h2⟩ := h
  have hn : n = cs.length := by simpa using h1.symm
  refine ⟨hn, ?_⟩
  rcases h2 with ⟨rfl, h2⟩ | ⟨g, cap, cur, rfl, h3, h4, h5, h6, h7, h8⟩
  · have : cs = [] := List.eq_nil_of_length_eq_zero (by omega)
    subst this
    exact ⟨none, 0, by rw [h2], fun k x hx => by simp at hx⟩
  · refine ⟨_, _, rfl, fun k b hk => ⟨g, 0, rfl, ?_⟩⟩
    have hlt := (List.getElem?_eq_some_iff.1 hk).1
    rw [Nat.zero_add, cell_of_row _ _ _ _ _ _ h4]
    have : (cur.toList.take (n * 1))[k]? = some b := by rw [h8, hk]
    rw [List.getElem?_take, if_pos (by omega), Array.getElem?_toList] at this
    exact this
theorem strOfNums_bytes (l : List UInt8) : strOfNums (l.map fun c => (c.toNat : Int)) = ⟨l.toArray⟩ := by
  have : (strOfNums (l.map fun c => (c.toNat : Int))).data = l.toArray := by
    apply Array.ext'
    rw [strOfNums_data, List.map_map]
    have e : ((fun n : Int => UInt8.ofNat n.toNat) ∘ fun c : UInt8 => (c.toNat : Int)) = id := by funext c; simp
    rw [e, List.map_id]
  rw [← this]
theorem run_text (w : World) (A : Option Addr) (cap : Nat) (l : List UInt8) (h : CellsIn w A (Lib.byteCells l)) :
    (convert 24 9 (.slice A l.length cap)).run Tryz.prog w = .ok (.string ⟨l.toArray⟩) w := by
  cases A with
  | none =>
    cases l with
    | nil => exact run_convert_bytes_nil w 24 5 Tryz.underlying24 Tryz.underlying5 _ _ 9 Tryz.underlying9
    | cons c l => obtain ⟨b, o, e, _⟩ := h 0 _ rfl; cases e
  | some p =>
    cases l with
    | nil =>
      have := run_convert_bytes_string (P := Tryz.prog) w 24 9 5 (some p) 0 cap Tryz.underlying24 Tryz.underlying5 Tryz.underlying9
      rw [List.length_nil, this, run_bytesToString w p 0 cap [] (run_loadCells_list (P := Tryz.prog) w p [] (fun j v hj => by simp at hj))]
      rfl
    | cons c l =>
      obtain ⟨b, o, e, _⟩ := h 0 _ rfl
      obtain rfl : p = ⟨b, o, none⟩ := by simpa using e
      rw [← strOfNums_bytes]
      refine run_convert_bytes_arg w 24 5 Tryz.underlying24 Tryz.underlying5 b o _ cap _ (by simp) (fun i hi => ?_) 9 Tryz.underlying9
      obtain ⟨x, hx⟩ : ∃ x, (c :: l)[i]? = some x := ⟨_, List.getElem?_eq_getElem hi⟩
      obtain ⟨b', o', e', hc⟩ := h i (.int .u8 x.toNat) (by rw [Lib.byteCells, List.getElem?_map, hx]; rfl)
      obtain ⟨rfl, rfl⟩ : b = b' ∧ o = o' := by simpa using e'
      rw [hc, List.getD_eq_getElem?_getD, List.getElem?_map, hx]
      rfl
/-- an append onto a row of one's own, as one step of a region that draws its order -/
theorem step_append_own {P : Program} {ops : Array Oper} {o : Oper} {a : Act} {w : World} {K : Act → World → Prop} {Q : Exit → Act → World → Prop} {E : Prop} (hg : o.guard = none) (s x : Operand) (t : TypeId)
    (ho : o.op = .call { callee := .builtin .append, args := #[s, x], argTypes := #[t, t] })
    (base : Nat) (e : TypeId) (i : TypeInfo) (z : Value) (size bytes : Nat) (ht : P.underlying t = some (.slice e)) (hi : P.info? e = some i) (hz : i.zero = some z)
    (hsize : i.size = size) (hby : i.bytes = bytes) (hzs : z.cells.size = size) (hsz : 0 < size)
    (v : Value) (n : Nat) (xs : List Value) (hs : a.eval s = v) (hown : w.ownsRow base e size v n xs)
    (ad : Addr) (m c : Nat) (news : List Value) (hx : a.eval x = .slice (some ad) m c) (hl : news.length = m * size) (hnews : ∀ j u, news[j]? = some u → w.cell? (ad.add j) = some u) (h1 : ∀ u ∈ news, u.oneCell' = true)
    (h63 : n + m ≤ maxLen) (hbytes : (n + m) * bytes ≤ 140737488355328) (hbase : base ≤ w.heap.size)
    (h : ∀ v' w', w'.ownsRow base e size v' (n + m) (xs ++ news) → w.grownBy w' v.ownBlock → (v' = .slice none 0 0 ↔ v = .slice none 0 0 ∧ m = 0) → K (a.put o.dst v') w') :
    if Region.wanted o (yielded ops a.tmps) = true then Oper.wp P o a w K Q else E := by
  rw [if_pos (by simp [Region.wanted, hg])]
  exact wp_append_own w s x t ho base e i z size bytes ht hi hz hsize hby hzs hsz v n xs hs hown ad m c news hx hl hnews h1 h63 hbytes hbase h
/-- a figure of a hex text -/
def hexD (n : Nat) : UInt8 := if n < 10 then UInt8.ofNat (48 + n) else UInt8.ofNat (87 + n)
theorem hexD_lo {n : Nat} (h : n < 10) : (hexD n).toNat = 48 + n := by unfold hexD; rw [if_pos h]; simp; omega
theorem hexD_hi {n : Nat} (h : ¬ n < 10) (h2 : n < 16) : (hexD n).toNat = 87 + n := by unfold hexD; rw [if_neg h]; simp; omega
def hexL (d : List UInt8) : List UInt8 := d.flatMap fun c => [hexD (c.toNat / 16), hexD (c.toNat % 16)]
theorem hexL_length (d : List UInt8) : (hexL d).length = 2 * d.length := by
  induction d with
  | nil => rfl
  | cons c d ih => simp [hexL] at *; omega
theorem hexL_take {d : List UInt8} {k : Nat} {c : UInt8} (h : d[k]? = some c) : hexL (d.take (k + 1)) = hexL (d.take k) ++ [hexD (c.toNat / 16), hexD (c.toNat % 16)] := by
  unfold hexL
  rw [List.take_add_one, h, List.flatMap_append]; simp
set_option maxHeartbeats 1000000 in
set_option maxRecDepth 100000 in
theorem figure_calls (n : Nat) (w : World) (h : n < 16) : Calls Tryz.prog 56 #[.int .u8 n] w fun e w' => e = .returned (.int .u8 (hexD n).toNat) ∧ w' = w := by
  have b1 := Lib.hid (@hexD_lo n)
  have b2 := Lib.hid (@hexD_hi n)
  have b3 : (n : Int) < 16 := by omega
  clear h
  by_cases h : (n : Int) < 10
  · go_enter Tryz.func56, Tryz.ntmps56
    go_wp2
    go_ret
    refine ⟨ret_int ?_, rfl⟩
    rw [b1.out (by omega)]
    have : (n : Int) ≤ 9 := by omega
    simp [IntKind.wrap, IntKind.bits] <;> omega
  · go_enter Tryz.func56, Tryz.ntmps56
    go_wp2
    go_ret
    refine ⟨ret_int ?_, rfl⟩
    rw [b2.out (by omega) (by omega)]
    simp [IntKind.wrap, IntKind.bits] <;> omega
theorem cells_two_new (w : World) (x y : Value) (t : TypeId) : ∀ j u, [x, y][j]? = some u → (w.alloc (.cells #[x, y] t)).cell? ((⟨w.heap.size, 0, none⟩ : Addr).add j) = some u := by
  intro j u hj
  rw [Addr.add_mid, Lib.cell_of_heap (heap_alloc_new w _), Nat.zero_add]
  simpa using hj
set_option maxHeartbeats 400000 in
set_option maxRecDepth 100000 in
theorem refHex_calls (A : Option Addr) (cap : Nat) (d : List UInt8) (w : World) (hl : d.length ≤ 1048576) (hA : CellsIn w A (Lib.byteCells d)) :
    Calls Tryz.prog 34 #[.slice A d.length cap] w fun e w' => e = .returned (.string ⟨(hexL d).toArray⟩) ∧ Below w.heap.size w w' := by
  obtain ⟨i0, hi, hz0, hz1, hz2⟩ := info_parts infoByte
  have hl' : (d.length : Int) ≤ 1048576 := by omega
  clear hl
  go_enter Tryz.func34, Tryz.ntmps34
  go_wp2
  go_loopw [3, 4] (fun v c wr => ∃ k : Nat, (k : Int) ≤ d.length ∧ c = .int .i64 k ∧ wr.ownsRow w.heap.size 5 1 v (2 * k) (Lib.byteCells (hexL (d.take k))) ∧ Below w.heap.size w wr) (fun _ c _ => d.length - (intOf c).toNat)
  case atStart => exact ⟨0, by omega, rfl, World.ownsRow_nil _ _ _ _, Below.refl _ _⟩
  case round =>
    obtain ⟨k, hk, rfl, hrow, hb⟩ := hrel
    have hAr := hA.below hb
    have hsz := hb.size
    by_cases hlt : (k : Int) < d.length
    · obtain ⟨c, hc⟩ : ∃ c, d[k]? = some c := ⟨_, List.getElem?_eq_getElem (by omega)⟩
      obtain ⟨b, o, rfl, hcell⟩ := hAr k (.int .u8 c.toNat) (by rw [Lib.byteCells, List.getElem?_map, hc]; rfl)
      have hc' : (Lib.byteCells d)[k]? = some (.int .u8 c.toNat) := by rw [Lib.byteCells, List.getElem?_map, hc]; rfl
      have hc1 : (c.toNat : Int) < 256 := by have := c.toNat_lt; omega
      have HA := Lib.hid hA
      have HC := Lib.hid hc'
      have HB0 := Lib.hid (hA.lt hc')
      have f1 : ∀ x, Calls Tryz.prog 56 #[.int .u8 (IntKind.u8.wrap ((c.toNat : Int) / 16))] x fun e w' => e = .returned (.int .u8 (hexD (c.toNat / 16)).toNat) ∧ w' = x := by
        intro x
        have := figure_calls (c.toNat / 16) x (by have := c.toNat_lt; omega)
        rw [show IntKind.u8.wrap ((c.toNat : Int) / 16) = ((c.toNat / 16 : Nat) : Int) by simp [IntKind.wrap, IntKind.bits]; omega]
        exact this
      have F1 := Lib.hid f1
      have f2 : ∀ x, Calls Tryz.prog 56 #[.int .u8 ((c.toNat : Int).tmod 16)] x fun e w' => e = .returned (.int .u8 (hexD (c.toNat % 16)).toNat) ∧ w' = x := by
        intro x
        have := figure_calls (c.toNat % 16) x (by omega)
        rw [show (c.toNat : Int).tmod 16 = ((c.toNat % 16 : Nat) : Int) by rw [Int.tmod_eq_emod_of_nonneg (by omega)]; omega]
        exact this
      have F2 := Lib.hid f2
      have HT := Lib.hid (hexL_take hc)
      clear hc hc' hA hAr f1 f2
      go_wp2
      have hlt2 : b < w.heap.size := HB0.out
      go_region_held3 (fun w' => w'.cell? ⟨b, o + k, none⟩ = some (.int .u8 c.toNat)) (first | assumption | go_keep) (first | (go_at_call 56; first | (with_reducible refine (F1.out _).mono ?_; rintro e w' ⟨rfl, rfl⟩) | (with_reducible refine (F2.out _).mono ?_; rintro e w' ⟨rfl, rfl⟩)) | (refine step_append_own rfl _ _ 24 rfl w.heap.size 5 i0 (.int .u8 0) 1 1 Tryz.underlying24 hi hz0 hz1 hz2 rfl (by decide) _ _ _ rfl ((ownsRow_drew hrow).alloc _) ⟨wr.heap.size, 0, none⟩ 2 2 [.int .u8 (hexD (c.toNat / 16)).toNat, .int .u8 (hexD (c.toNat % 16)).toNat] rfl rfl (cells_two_new _ _ _ _) (by simp [Value.oneCell']) (by unfold maxLen; omega) (by omega) (by simp; omega) ?_; intro v' w1 hown' hgrow _; obtain ⟨g', cap', rfl⟩ := ownsRow_succ hown'; have hb1 : Below w.heap.size w w1 := ((hb.drew).alloc hsz _).grown hgrow (by simp; omega) (fun r e => (hrow.lt r e).1); have hS1 : w1.cell? ⟨b, o + k, none⟩ = some (.int .u8 c.toNat) := (HA.out.below hb1).at' HC.out))
      all_goals
        go_wp2
        go_roundw
        case rel =>
          refine ⟨k + 1, by omega, by go_num, ?_, hb1⟩
          rw [HT.out, Lib.byteCells, List.map_append]
          exact hown'
        case measure => simp [intOf]; omega
    · obtain rfl : k = d.length := by omega
      obtain ⟨hn, a, cap', rfl, hC⟩ := cellsIn_of_owns hrow
      have ht := run_text wr a cap' _ hC
      rw [List.take_length, hexL_length] at ht
      have HT := Lib.hid ht
      clear hA hAr hC ht hn hrow
      go_wp2_with (rw [HT.out])
      go_ret
      exact ⟨rfl, hb⟩
def kindL : List UInt8 := [115, 104, 97, 50, 53, 54, 58]
def digT (d : List UInt8) : List UInt8 := kindL ++ hexL d
theorem digT_length (d : List UInt8) : (digT d).length = 7 + 2 * d.length := by rw [digT, List.length_append, hexL_length]; rfl
theorem lits (l m : List UInt8) : (⟨l.toArray⟩ : ByteArray) ++ ⟨m.toArray⟩ = ⟨(l ++ m).toArray⟩ := by
  apply ByteArray.ext
  simp [ByteArray.data_append]
set_option maxHeartbeats 1000000 in
set_option maxRecDepth 100000 in
theorem refDig_calls (d : List UInt8) (w : World) (hd : d.length = 32) :
    Calls Tryz.prog 33 #[.agg (digV d).toArray] w fun e w' => e = .returned (.string ⟨(digT d).toArray⟩) ∧ Below w.heap.size w w' := by
  have hr := cellsIn_of_range (rangeAt_new w (digV d) 23)
  have h79 := refHex_calls _ 32 d _ (by omega) hr
  rw [hd] at h79
  have H := Lib.hid h79
  clear hr h79
  have hlen : ¬ 9223372036854775807 < 7 + (hexL d).length := by rw [hexL_length]; omega
  clear hd
  go_enter Tryz.func33, Tryz.ntmps33
  go_wp2_with (go_at_call 34; refine H.out.mono ?_; rintro e w1 ⟨rfl, hb⟩)
  go_ret
  refine ⟨?_, (((Below.refl _ _).alloc (Nat.le_refl _) _).trans (hb.mono (by simp)))⟩
  rw [show ({ data := #[115, 104, 97, 50, 53, 54, 58] } : ByteArray) = ⟨kindL.toArray⟩ from rfl, lits]
  rfl
end Go.Proofs.YtjplfkcelkijfaaGreatDoor
