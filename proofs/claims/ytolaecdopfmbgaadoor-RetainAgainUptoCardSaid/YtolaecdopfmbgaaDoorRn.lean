/- Rules as rows, and the law's own: the document's rules as the program's. Condition: at most 1048576 rules. -/
import Derived.Deep.WholeRow
import Derived.Lib.SliceRun
import Derived.Test.YtolaecdopfmbgaaDoorRm
namespace Go.Proofs.YtolaecdopfmbgaaDoor
open Go.RowKit Go.Shelf

/-- an append onto a row of one's own, as one step of a region that draws its order -/
theorem step_append_own {P : Program} {ops : Array Oper} {o : Oper} {a : Act} {w : World} {K : Act → World → Prop} {Q : Exit → Act → World → Prop} {E : Prop} (hg : o.guard = none) (s x : Operand) (t : TypeId)
    (ho : o.op = .call { callee := .builtin .append, args := #[s, x], argTypes := #[t, t] })
    (base : Nat) (e : TypeId) (i : TypeInfo) (z : Value) (size bytes : Nat) (ht : P.underlying t = some (.slice e)) (hi : P.info? e = some i) (hz : i.zero = some z)
    (hsize : i.size = size) (hby : i.bytes = bytes) (hzs : z.cells.size = size) (hsz : 0 < size)
    (v : Value) (n : Nat) (xs : List Value) (hs : a.eval s = v) (hown : w.ownsRow base e size v n xs)
    (ad : Addr) (m c : Nat) (news : List Value) (hx : a.eval x = .slice (some ad) m c) (hl : news.length = m * size) (hnews : ∀ j u, news[j]? = some u → w.cell? (ad.add j) = some u) (h1 : ∀ u ∈ news, u.oneCell' = true)
    (h63 : n + m ≤ maxLen) (hbytes : (n + m) * bytes ≤ 140737488355328) (hbase : base ≤ w.heap.size)
    (h : ∀ v' w', w'.ownsRow base e size v' (n + m) (xs ++ news) → w.grownBy w' v.ownBlock → (v' = .slice none 0 0 ↔ v = .slice none 0 0 ∧ m = 0) → K (a.put o.dst v') w') :
    if Region.wanted o (yielded ops a.tmps) = true then Oper.wp P o a w K Q else E := by
  rw [if_pos (by simp [Region.wanted, hg])]
  exact wp_append_own w s x t ho base e i z size bytes ht hi hz hsize hby hzs hsz v n xs hs hown ad m c news hx hl hnews h1 h63 hbytes hbase h
theorem cells_two_new (w : World) (x y : Value) (t : TypeId) : ∀ j u, [x, y][j]? = some u → (w.alloc (.cells #[x, y] t)).cell? ((⟨w.heap.size, 0, none⟩ : Addr).add j) = some u := by
  intro j u hj
  rw [Addr.add_mid, Lib.cell_of_heap (heap_alloc_new w _), Nat.zero_add]
  simpa using hj

abbrev Rul := List UInt8 × Int
def rulC (R : List Rul) : List Value := R.flatMap fun r => [.string (strV r.1), .int .i64 r.2]
theorem rulC_length (R : List Rul) : (rulC R).length = R.length * 2 := by
  induction R with
  | nil => rfl
  | cons r R ih => show ([_, _] ++ rulC R).length = _; rw [List.length_append, ih]; simp; omega
theorem rulC_snoc (R : List Rul) (r : Rul) : rulC (R ++ [r]) = rulC R ++ [.string (strV r.1), .int .i64 r.2] := by simp [rulC]
theorem rulC_get : ∀ (R : List Rul) (k : Nat) (h : k < R.length), (rulC R)[k * 2]? = some (.string (strV R[k].1)) ∧ (rulC R)[k * 2 + 1]? = some (.int .i64 R[k].2)
  | r :: R, 0, h => ⟨rfl, rfl⟩
  | r :: R, k + 1, h => by
    have ih := rulC_get R k (by simpa using h)
    have e : rulC (r :: R) = [.string (strV r.1), .int .i64 r.2] ++ rulC R := rfl
    rw [e, show (k + 1) * 2 = k * 2 + 2 by omega]
    exact ih
/-- a value reads as a row of rules -/
def RulIn (w : World) (v : Value) (R : List Rul) : Prop :=
  ∃ a cap, v = .slice a R.length cap ∧ ∀ k (h : k < R.length), ∃ g off, a = some ⟨g, off, none⟩ ∧ g < w.heap.size ∧ w.cell? ⟨g, off + k * 2, none⟩ = some (.string (strV R[k].1)) ∧ w.cell? ⟨g, off + k * 2 + 1, none⟩ = some (.int .i64 R[k].2)
theorem RulIn.below {w w' : World} {v : Value} {R : List Rul} (h : RulIn w v R) (hb : Below w.heap.size w w') : RulIn w' v R := by
  obtain ⟨a, cap, rfl, hc⟩ := h
  refine ⟨a, cap, rfl, fun k hk => ?_⟩
  obtain ⟨g, off, ha, hlt, h1, h2⟩ := hc k hk
  exact ⟨g, off, ha, Nat.lt_of_lt_of_le hlt hb.size, (hb.cell (p := ⟨g, off + k * 2, none⟩) hlt).trans h1, (hb.cell (p := ⟨g, off + k * 2 + 1, none⟩) hlt).trans h2⟩
theorem RulIn.of_owns {w : World} {base : Nat} {v : Value} {R : List Rul} (h : w.ownsRow base 80 2 v R.length (rulC R)) : RulIn w v R := by
  obtain ⟨h1, (⟨rfl, h2⟩ | ⟨g, cap, cur, rfl, h3, h4, h5, h6, h7, h8⟩)⟩ := h
  · have : R = [] := List.eq_nil_of_length_eq_zero h2
    subst this
    exact ⟨none, 0, rfl, fun k x => by simp at x⟩
  · refine ⟨_, _, rfl, fun k hk => ⟨g, 0, rfl, (Array.getElem?_eq_some_iff.1 h4).1, ?_, ?_⟩⟩
    · rw [Nat.zero_add, cell_of_row _ _ _ _ _ _ h4, ← (rulC_get R k hk).1, ← h8, List.getElem?_take, if_pos (by omega), Array.getElem?_toList]
    · rw [show 0 + k * 2 + 1 = k * 2 + 1 by omega, cell_of_row _ _ _ _ _ _ h4, ← (rulC_get R k hk).2, ← h8, List.getElem?_take, if_pos (by omega), Array.getElem?_toList]
theorem RulIn.at_ {w : World} {v : Value} {R : List Rul} (h : RulIn w v R) : ∃ a cap, v = .slice a R.length cap ∧ ∀ W, Below w.heap.size w W → ∀ k (h : k < R.length), ∃ g off, a = some ⟨g, off, none⟩ ∧ g < w.heap.size ∧ W.cell? ⟨g, off + k * 2, none⟩ = some (.string (strV R[k].1)) ∧ W.cell? ⟨g, off + k * 2 + 1, none⟩ = some (.int .i64 R[k].2) := by
  obtain ⟨a, cap, rfl, hc⟩ := h
  refine ⟨a, cap, rfl, fun W hW k hk => ?_⟩
  obtain ⟨g, off, ha, hlt, h1, h2⟩ := hc k hk
  exact ⟨g, off, ha, hlt, (hW.cell (p := ⟨g, off + k * 2, none⟩) hlt).trans h1, (hW.cell (p := ⟨g, off + k * 2 + 1, none⟩) hlt).trans h2⟩
theorem infoRul : (Tryd.prog.info? 80).map (fun i => (i.zero, i.size, i.bytes)) = some (some (.agg #[.string ByteArray.empty, .int .i64 0]), 2, 24) := by kernel_rfl

set_option maxRecDepth 100000 in
set_option maxHeartbeats 2000000 in
theorem rules_calls (R : List Rul) (v : Value) (w : World) (hv : RulIn w v R) (hn : R.length ≤ 1048576) :
    Calls Tryd.prog 20 #[v] w fun e w' => ∃ v', e = .returned v' ∧ w'.ownsRow w.heap.size 80 2 v' R.length (rulC R) ∧ Below w.heap.size w w' := by
  obtain ⟨i0, hi, hz0, hz1, hz2⟩ := info_parts infoRul
  obtain ⟨a, ca, rfl, hca⟩ := hv.at_
  have HCA := Lib.hid hca
  have hn' : (R.length : Int) ≤ 1048576 := by omega
  clear hca hv hn
  go_enter Tryd.func20, Tryd.ntmps20
  go_wp2_with fail
  go_loopw [3, 4] (fun o i wr => ∃ k : Nat, i = .int .i64 k ∧ (k : Int) ≤ R.length ∧ wr.ownsRow w.heap.size 80 2 o (R.take k).length (rulC (R.take k)) ∧ Below w.heap.size w wr) (fun _ i _ => R.length - (intOf i).toNat)
  case atStart => exact ⟨0, rfl, by omega, World.ownsRow_nil _ _ _ _, Below.refl _ _⟩
  case round =>
    obtain ⟨k, rfl, hk, hown, hb⟩ := hrel
    by_cases hlt : (k : Int) < R.length
    · have hlt' : k < R.length := by omega
      obtain ⟨g, off, rfl, hgl, c1, c2⟩ := HCA.out wr hb k hlt'
      have hsn : R.take (k + 1) = R.take k ++ [R[k]] := List.take_succ_eq_append_getElem hlt'
      have hle : (R.take k).length ≤ k := List.length_take_le _ _
      have hsz := hb.size
      have hgw : g < wr.heap.size := by omega
      generalize hr : R[k] = r at *
      generalize R.take k = X at *
      obtain ⟨p, n⟩ := r
      have HSN := Lib.hid hsn
      have HB := Lib.hid hb
      have HO := Lib.hid hown
      clear hsn hb hown
      have HC2 : Hid (∀ W, Below w.heap.size w W → W.cell? ⟨g, off + k * 2, none⟩ = some (.string (strV p)) ∧ W.cell? ⟨g, off + k * 2 + 1, none⟩ = some (.int .i64 n)) := fun W hW => by
        obtain ⟨g', off', e, _, c3, c4⟩ := HCA.out W hW k hlt'
        cases e
        rw [hr] at c3 c4
        exact ⟨c3, c4⟩
      clear hr
      go_wp2_with fail
      go_region_held3 (fun w' => w'.cell? ⟨g, off + k * 2, none⟩ = some (.string (strV p)) ∧ w'.cell? ⟨g, off + k * 2 + 1, none⟩ = some (.int .i64 n)) (first | exact ⟨c1, c2⟩ | assumption | go_keep) (first | (refine step_append_own rfl _ _ 49 rfl w.heap.size 80 i0 (.agg #[.string ByteArray.empty, .int .i64 0]) 2 24 Tryd.underlying49 hi hz0 hz1 hz2 rfl (by decide) _ _ _ rfl (HO.out.alloc _) ⟨wr.heap.size, 0, none⟩ 1 1 [.string (strV p), .int .i64 n] rfl rfl (cells_two_new _ _ _ _) (by simp [Value.oneCell']) (by unfold maxLen; omega) (by omega) (by simp; omega) ?_; intro v' w1 hown' hgrow _; obtain ⟨g', cap', rfl⟩ := ownsRow_succ hown'; have hb1 : Below w.heap.size w w1 := ((HB.out.drew).alloc hsz _).grown hgrow (by simp; omega) (fun r e => (HO.out.lt r e).1); obtain ⟨c3, c4⟩ := HC2.out w1 hb1; have hS1 : w1.cell? ⟨g, off + k * 2, none⟩ = some (.string (strV p)) ∧ w1.cell? ⟨g, off + k * 2 + 1, none⟩ = some (.int .i64 n) := ⟨c3, c4⟩))
      all_goals
        go_wp2
        go_roundw
        case rel =>
          refine ⟨k + 1, by go_num, by omega, ?_, hb1⟩
          rw [HSN.out, List.length_append, rulC_snoc]
          exact hown'
        case measure => simp [intOf]; omega
    · have hkl : k = R.length := by omega
      subst hkl
      rw [List.take_length] at hown
      have HO := Lib.hid hown
      have HB := Lib.hid hb
      clear hown hb
      go_wp2_with fail
      go_ret
      exact ⟨_, rfl, HO.out, HB.out⟩
end Go.Proofs.YtolaecdopfmbgaaDoor
