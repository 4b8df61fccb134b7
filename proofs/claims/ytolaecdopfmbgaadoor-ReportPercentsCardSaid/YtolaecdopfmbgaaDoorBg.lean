/- strings.Builder.WriteString writes behind what a builder of the call's own holds. Condition: the new length is at most 140737488355328 bytes. -/
import Derived.Test.YtolaecdopfmbgaaDoorBf
namespace Go.Proofs.YtolaecdopfmbgaaDoor
open Go.RowKit

theorem wpList_append_str {ops : Array Oper} {Q : Exit → Act → World → Prop} {a : Act} {w : World} {rest : List Oper} {ty : TypeId} {pos : String} {after : Array Edge} {d x y : Tmp} (base : Nat) (v : Value) (xs : List Value) (s : ByteArray)
    (hb : base ≤ w.heap.size) (hl : xs.length + s.size ≤ 140737488355328) (hown : w.ownsRow base 5 1 v xs.length xs)
    (hx : a.tmps.getD x undef = v) (hy : a.tmps.getD y undef = .string s)
    (h : ∀ v' w', w'.ownsRow base 5 1 v' (xs.length + s.size) (xs ++ Lib.strCells s) → w.grownBy w' v.ownBlock → wpList Tryd.prog ops Q rest (a.put (some d) v') w') :
    wpList Tryd.prog ops Q ({ dst := some d, op := .call { callee := .builtin .append, args := #[.tmp x, .tmp y], argTypes := #[23, 9] }, type := ty, pos := pos, after := after, guard := none } :: rest) a w := by
  obtain ⟨i0, hi, hz0, hz1, hz2⟩ := info_parts infoByte
  refine wpList_plain rfl fun K hK => ?_
  obtain ⟨v', w', hr, h2, h3, _⟩ := Lib.run_append_own_string (P := Tryd.prog) w base 23 9 ty 5 i0 Tryd.underlying23 Tryd.underlying9 hi hz0 hz1 hz2 v xs.length xs hown s (by unfold maxLen; omega) hl hb
  have hx' : a.eval (.tmp x) = v := hx
  have hy' : a.eval (.tmp y) = .string s := hy
  unfold Oper.wp execOp
  simp only [resolve, invoke, builtin, Sem.run_bind, Sem.run_pure, Result.andThen_ok, List.map_toArray, List.map_cons, List.map_nil, hx', hy', hr]
  exact hK _ _ (h v' w' h2 h3)

set_option maxHeartbeats 2000000 in
set_option maxRecDepth 100000 in
theorem writeString_calls (B b : Nat) (bs : List Value) (s : ByteArray) (w : World) (h : Lib.IsBuilder 109 5 B b bs w) (hlen : bs.length + s.size ≤ 140737488355328) (hBw : B ≤ w.heap.size) :
    Calls Tryd.prog 91 #[.pointer (some ⟨b, 0, none⟩), .string s] w fun e w' => e = .returned (.tuple #[.int .i64 s.size, .nilIface]) ∧ (Lib.BuilderAt 109 5 B b (.pointer (some ⟨b, 0, none⟩)) (bs ++ Lib.strCells s) w' ∧ Below B w w') := by
  go_enter Tryd.func91, Tryd.ntmps91
  go_wp2_with (go_at_call 109; refine (copyCheck_calls B b bs _ h).mono ?_)
  rintro e w1 ⟨rfl, h1, hb1⟩
  obtain ⟨hB, v, hbk, hown, hne⟩ := h1
  have c0 : w1.cell? ⟨b, 0, none⟩ = some (.pointer (some ⟨b, 0, none⟩)) := by rw [Lib.cell_of_heap hbk]; rfl
  have c1 : w1.cell? ⟨b, 1, none⟩ = some v := by rw [Lib.cell_of_heap hbk]; rfl
  have HOWN := Lib.hid hown
  have HLEN := Lib.hid hlen
  have HB1 := Lib.hid hb1
  have HBW := Lib.hid hBw
  clear hlen
  have hlt : b < w1.heap.size := by
    rcases Nat.lt_or_ge b w1.heap.size with h' | h'
    · exact h'
    · simp [Array.getElem?_eq_none h'] at hbk
  have HLT := Lib.hid hlt
  have HBK := Lib.hid hbk
  have HNE := Lib.hid hne
  have hsz : (s.size : Int) ≤ 140737488355328 := by have := HLEN.out; omega
  clear hlt hbk hne h hown
  go_wp2_with ((with_reducible refine wpList_append_str B v bs s (Nat.le_trans HBW.out HB1.out.size) HLEN.out HOWN.out rfl rfl ?_); intro v' w2 hown' hgrow; have hb2 : w2.heap[b]? = some (.cells #[.pointer (some ⟨b, 0, none⟩), v] 109 (0, 0)) := (hgrow.block b HLT.out (fun e => HNE.out e.symm)).trans HBK.out; obtain ⟨hn0, a', cap', hv', hci⟩ := cellsIn_of_owns hown'; subst hv'; have d0 : w2.cell? ⟨b, 0, none⟩ = some (.pointer (some ⟨b, 0, none⟩)) := (by rw [Lib.cell_of_heap hb2]; rfl); have d1 : w2.cell? ⟨b, 1, none⟩ = some v := (by rw [Lib.cell_of_heap hb2]; rfl); have f1 : w2.frozen? ⟨b, 1, none⟩ = false := Lib.frozen_of_heap hb2 1; have HO2 := Lib.hid hown'; have HB2 := Lib.hid hb2; have HGR := Lib.hid hgrow; clear hn0 hci hown' hb2 hgrow)
  go_ret2
  have hcl : (Lib.strCells s).length = s.size := by simp [Lib.strCells]
  refine ⟨rfl, builder_end hB HB1.out HBK.out (by rw [hcl]; exact HO2.out) HB2.out ?_⟩
  exact (Below.refl B w1).grown HGR.out (Nat.le_trans HBW.out HB1.out.size) (fun k hk => (HOWN.out.lt k hk).1)
end Go.Proofs.YtolaecdopfmbgaaDoor
