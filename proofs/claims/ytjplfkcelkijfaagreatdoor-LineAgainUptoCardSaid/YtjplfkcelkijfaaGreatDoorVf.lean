/- Replies: their plain line; strings.Builder.WriteString; the closure that writes a part. Condition: lengths of at most 140737488355328 bytes. -/
import Derived.Test.YtjplfkcelkijfaaGreatDoorQt
import Derived.Test.YtjplfkcelkijfaaGreatDoorVe
namespace Go.Proofs.YtjplfkcelkijfaaGreatDoor
open Go.RowKit

theorem wpList_append_str {ops : Array Oper} {Q : Exit → Act → World → Prop} {a : Act} {w : World} {rest : List Oper} {ty : TypeId} {pos : String} {after : Array Edge} {d x y : Tmp} (base : Nat) (v : Value) (xs : List Value) (s : ByteArray)
    (hb : base ≤ w.heap.size) (hl : xs.length + s.size ≤ 140737488355328) (hown : w.ownsRow base 5 1 v xs.length xs)
    (hx : a.tmps.getD x undef = v) (hy : a.tmps.getD y undef = .string s)
    (h : ∀ v' w', w'.ownsRow base 5 1 v' (xs.length + s.size) (xs ++ Lib.strCells s) → w.grownBy w' v.ownBlock → wpList Tryz.prog ops Q rest (a.put (some d) v') w') :
    wpList Tryz.prog ops Q ({ dst := some d, op := .call { callee := .builtin .append, args := #[.tmp x, .tmp y], argTypes := #[24, 9] }, type := ty, pos := pos, after := after, guard := none } :: rest) a w := by
  obtain ⟨i0, hi, hz0, hz1, hz2⟩ := info_parts infoByte
  refine wpList_plain rfl fun K hK => ?_
  obtain ⟨v', w', hr, h2, h3, _⟩ := Lib.run_append_own_string (P := Tryz.prog) w base 24 9 ty 5 i0 Tryz.underlying24 Tryz.underlying9 hi hz0 hz1 hz2 v xs.length xs hown s (by unfold maxLen; omega) hl hb
  have hx' : a.eval (.tmp x) = v := hx
  have hy' : a.eval (.tmp y) = .string s := hy
  unfold Oper.wp execOp
  simp only [resolve, invoke, builtin, Sem.run_bind, Sem.run_pure, Result.andThen_ok, List.map_toArray, List.map_cons, List.map_nil, hx', hy', hr]
  exact hK _ _ (h v' w' h2 h3)

set_option maxHeartbeats 2000000 in
set_option maxRecDepth 100000 in
theorem writeString_calls (B b : Nat) (bs : List Value) (s : ByteArray) (w : World) (h : Lib.IsBuilder 62 5 B b bs w) (hlen : bs.length + s.size ≤ 140737488355328) (hBw : B ≤ w.heap.size) :
    Calls Tryz.prog 27 #[.pointer (some ⟨b, 0, none⟩), .string s] w fun e w' => e = .returned (.tuple #[.int .i64 s.size, .nilIface]) ∧ (Lib.BuilderAt 62 5 B b (.pointer (some ⟨b, 0, none⟩)) (bs ++ Lib.strCells s) w' ∧ Below B w w') := by
  go_enter Tryz.func27, Tryz.ntmps27
  go_wp2_with (go_at_call 53; refine (copyCheck_calls B b bs _ h).mono ?_)
  rintro e w1 ⟨rfl, h1, hb1⟩
  obtain ⟨hB, v, hbk, hown, hne⟩ := h1
  have c0 : w1.cell? ⟨b, 0, none⟩ = some (.pointer (some ⟨b, 0, none⟩)) := by rw [Lib.cell_of_heap hbk]; rfl
  have c1 : w1.cell? ⟨b, 1, none⟩ = some v := by rw [Lib.cell_of_heap hbk]; rfl
  have HOWN := Lib.hid hown
  have HLEN := Lib.hid hlen
  have HB1 := Lib.hid hb1
  have HBW := Lib.hid hBw
  clear hlen
  have hlt : b < w1.heap.size := by
    rcases Nat.lt_or_ge b w1.heap.size with h' | h'
    · exact h'
    · simp [Array.getElem?_eq_none h'] at hbk
  have HLT := Lib.hid hlt
  have HBK := Lib.hid hbk
  have HNE := Lib.hid hne
  have hsz : (s.size : Int) ≤ 140737488355328 := by have := HLEN.out; omega
  clear hlt hbk hne h hown
  go_wp2_with ((with_reducible refine wpList_append_str B v bs s (Nat.le_trans HBW.out HB1.out.size) HLEN.out HOWN.out rfl rfl ?_); intro v' w2 hown' hgrow; have hb2 : w2.heap[b]? = some (.cells #[.pointer (some ⟨b, 0, none⟩), v] 62 (0, 0)) := (hgrow.block b HLT.out (fun e => HNE.out e.symm)).trans HBK.out; obtain ⟨hn0, a', cap', hv', hci⟩ := cellsIn_of_owns hown'; subst hv'; have d0 : w2.cell? ⟨b, 0, none⟩ = some (.pointer (some ⟨b, 0, none⟩)) := (by rw [Lib.cell_of_heap hb2]; rfl); have d1 : w2.cell? ⟨b, 1, none⟩ = some v := (by rw [Lib.cell_of_heap hb2]; rfl); have f1 : w2.frozen? ⟨b, 1, none⟩ = false := Lib.frozen_of_heap hb2 1; have HO2 := Lib.hid hown'; have HB2 := Lib.hid hb2; have HGR := Lib.hid hgrow; clear hn0 hci hown' hb2 hgrow)
  go_ret2
  have hcl : (Lib.strCells s).length = s.size := by simp [Lib.strCells]
  refine ⟨rfl, builder_end hB HB1.out HBK.out (by rw [hcl]; exact HO2.out) HB2.out ?_⟩
  exact (Below.refl B w1).grown HGR.out (Nat.le_trans HBW.out HB1.out.size) (fun k hk => (HOWN.out.lt k hk).1)

theorem isBuilder_later {B b : Nat} {bs : List Value} {w w' : World} (h : Lib.IsBuilder 62 5 B b bs w) (hb : Below w.heap.size w w') : Lib.IsBuilder 62 5 B b bs w' := by
  have aux : ∀ p, Lib.BuilderAt 62 5 B b p bs w → Lib.BuilderAt 62 5 B b p bs w' := fun p h => by
    have hlt := h.lt
    obtain ⟨hB, v, hbk, hown, hne⟩ := h
    exact ⟨hB, v, (hb.block _ hlt).trans hbk, ownsRow_same hown (fun j hj => hb.block _ (hown.lt j hj).2), hne⟩
  exact h.imp (aux _) (aux _)
/-- a reply: error, Id, kind, N, digest, data, names -/
structure RepV where
  e : Int
  i : Int
  k : Int
  n : Int
  d : List UInt8
  b : List UInt8
  l : List (List UInt8)
def in64 (x : Int) : Prop := -9223372036854775808 ≤ x ∧ x ≤ 9223372036854775807
def RepV.fits (r : RepV) : Prop := in64 r.e ∧ in64 r.i ∧ in64 r.k ∧ in64 r.n ∧ r.d.length = 32
def zeroRep : RepV := ⟨0, 0, 0, 0, zeroD, [], []⟩
/-- its cells, the data and the names being two slices -/
def repV (r : RepV) (v1 v2 : Value) : List Value := .int .i64 r.e :: .int .i64 r.i :: .int .i64 r.k :: .int .i64 r.n :: (digV r.d ++ [v1, v2])
theorem repV_length (r : RepV) (v1 v2 : Value) (hd : r.d.length = 32) : (repV r v1 v2).length = 38 := by
  unfold repV
  simp only [List.length_cons, List.length_append, digV_length, hd, List.length_nil]
theorem size37 : (Tryz.prog.info? 37).map (·.size) = some 38 := by kernel_rfl
theorem u37 : ∃ fs, Tryz.prog.underlying 37 = some (.struct fs) := by
  have h : (match Tryz.prog.underlying 37 with | some (.struct _) => true | _ => false) = true := by kernel_rfl
  cases e : Tryz.prog.underlying 37 with
  | none => rw [e] at h; cases h
  | some u =>
    rw [e] at h
    cases u with
    | struct fs => exact ⟨fs, rfl⟩
    | _ => cases h
structure RepAt (w : World) (g : Nat) (r : RepV) (v1 v2 : Value) : Prop where
  e : w.cell? ⟨g, 0, none⟩ = some (.int .i64 r.e)
  i : w.cell? ⟨g, 1, none⟩ = some (.int .i64 r.i)
  k : w.cell? ⟨g, 2, none⟩ = some (.int .i64 r.k)
  n : w.cell? ⟨g, 3, none⟩ = some (.int .i64 r.n)
  d : w.rangeAt g 4 (digV r.d)
  dat : w.cell? ⟨g, 36, none⟩ = some v1
  nam : w.cell? ⟨g, 37, none⟩ = some v2
  lt : g < w.heap.size
theorem repAt_of {w : World} {b : Nat} {r : RepV} {v1 v2 : Value} (h : w.rangeAt b 0 (repV r v1 v2)) (hd : r.d.length = 32) : RepAt w b r v1 v2 := by
  have g : ∀ (j : Nat) u, (repV r v1 v2)[j]? = some u → w.cell? ⟨b, j, none⟩ = some u := fun j u hj => by have := h j u hj; rwa [Nat.zero_add] at this
  have h36 : (repV r v1 v2)[36]? = some v1 := by
    show (digV r.d ++ [v1, v2])[32]? = some v1
    rw [List.getElem?_append_right (by rw [digV_length, hd]; exact Nat.le_refl _), digV_length, hd]; rfl
  have h37 : (repV r v1 v2)[37]? = some v2 := by
    show (digV r.d ++ [v1, v2])[33]? = some v2
    rw [List.getElem?_append_right (by rw [digV_length, hd]; omega), digV_length, hd]; rfl
  refine ⟨g 0 _ rfl, g 1 _ rfl, g 2 _ rfl, g 3 _ rfl, fun j u hj => ?_, g 36 _ h36, g 37 _ h37, World.block_lt_of_cell? _ _ (g 0 _ rfl)⟩
  have h5 : (repV r v1 v2)[4 + j]? = some u := by
    rw [Nat.add_comm]
    show (digV r.d ++ [v1, v2])[j]? = some u
    rw [List.getElem?_append_left (List.getElem?_eq_some_iff.1 hj).1]; exact hj
  exact g _ _ h5
theorem repAt_new (w : World) (r : RepV) (v1 v2 : Value) (hd : r.d.length = 32) : RepAt (w.alloc (.cells (repV r v1 v2).toArray 37)) w.heap.size r v1 v2 := repAt_of (rangeAt_new w (repV r v1 v2) 37) hd
theorem RepAt.below {w w' : World} {b : Nat} {r : RepV} {v1 v2 : Value} (h : RepAt w b r v1 v2) (hb : Below w.heap.size w w') : RepAt w' b r v1 v2 :=
  have c : ∀ (j : Nat) u, w.cell? ⟨b, j, none⟩ = some u → w'.cell? ⟨b, j, none⟩ = some u := fun j u hj => (hb.cell (p := ⟨b, j, none⟩) h.lt).trans hj
  ⟨c _ _ h.e, c _ _ h.i, c _ _ h.k, c _ _ h.n, rangeAt_below h.d hb, c _ _ h.dat, c _ _ h.nam, Nat.lt_of_lt_of_le h.lt hb.size⟩
/-- a part, if it is there -/
def tellL (is : Bool) (word s : List UInt8) : List UInt8 := if is then 32 :: (word ++ 61 :: s) else []
def idL (r : RepV) : List UInt8 := tellL (decide (r.i ≠ 0)) [105, 100] (Lib.itoa r.i)
def kindL' (r : RepV) : List UInt8 := tellL (decide (r.k ≠ 0)) [107, 105, 110, 100] (Lib.itoa r.k)
def nL (r : RepV) : List UInt8 := tellL (decide (r.n ≠ 0)) [110] (Lib.itoa r.n)
def digL (r : RepV) : List UInt8 := tellL (decide (r.d ≠ zeroD)) [100, 105, 103, 101, 115, 116] (digT r.d)
def dataL (r : RepV) : List UInt8 := tellL (decide (r.b ≠ [])) [100, 97, 116, 97] (120 :: hexL r.b)
def namesL (r : RepV) : List UInt8 := tellL (decide (r.l ≠ [])) [110, 97, 109, 101, 115] (joinC 44 r.l)
/-- a reply's line -/
def replyL (r : RepV) : List UInt8 :=
  if r.e ≠ 0 then [101, 114, 114, 111, 114, 32] ++ Lib.itoa r.e else (((((([111, 107] ++ idL r) ++ kindL' r) ++ nL r) ++ digL r) ++ dataL r) ++ namesL r)
end Go.Proofs.YtjplfkcelkijfaaGreatDoor
