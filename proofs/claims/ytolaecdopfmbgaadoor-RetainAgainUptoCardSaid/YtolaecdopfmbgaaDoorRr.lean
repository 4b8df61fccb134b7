/- version.Last, and retain.Keep's closure; an append of names onto names. Condition: at most 67108864 names of at most 1048576 bytes. -/
import Derived.Maps.AppendAt
import Derived.Test.YtolaecdopfmbgaaDoorRq
namespace Go.Proofs.YtolaecdopfmbgaaDoor
open Go.RowKit Go.Shelf

theorem lastV_le (l : List (List UInt8)) (c : Int) : (lastV l c).length ≤ (rowV l).length := by unfold lastV; rw [List.length_drop]; omega
theorem lastV_mem (l : List (List UInt8)) (c : Int) (x : List UInt8) (h : x ∈ lastV l c) : x ∈ l := (rowV_mem x l).1 (List.mem_of_mem_drop h)
theorem addr_add (g off k : Nat) : (⟨g, off, none⟩ : Addr).add k = ⟨g, off + k, none⟩ := by unfold Addr.add; split <;> simp_all
set_option maxHeartbeats 1000000 in
theorem last_calls (l : List (List UInt8)) (v : Value) (c : Int) (w : World) (hv : NamIn w v l) (hl : Small l) (hn : l.length ≤ 67108864) (hr : (rowV l).length ≤ 67108864) (h1 : -9223372036854775808 ≤ c) (h2 : c ≤ 9223372036854775807) :
    Calls Tryd.prog 39 #[v, .int .i64 c] w fun e w' => ∃ v', e = .returned v' ∧ NamIn w' v' (lastV l c) ∧ Below w.heap.size w w' := by
  have H := Lib.hid (Row_calls l v w hv hl hn)
  have hlast : Hid (lastV l c = (rowV l).drop ((rowV l).length - c.toNat)) := rfl
  generalize lastV l c = L at *
  generalize rowV l = all at *
  have hr' : (all.length : Int) ≤ 67108864 := by omega
  have e1 : max 0 c = (c.toNat : Int) := by omega
  obtain ⟨k, hk⟩ : ∃ k : Nat, k = all.length - c.toNat := ⟨_, rfl⟩
  have e2 : max 0 ((all.length : Int) - (c.toNat : Int)) = (k : Int) := by omega
  have hkl : (k : Int) ≤ all.length := by omega
  have HL : Hid (L = all.drop k) := by unfold Hid; rw [hlast.out, hk]
  have hc0 : (0 : Int) ≤ (c.toNat : Int) := by omega
  have hc1 : (c.toNat : Int) ≤ 9223372036854775807 := by omega
  generalize c.toNat = cn at *
  clear hk hlast hl hn hr
  go_enter Tryd.func39, Tryd.ntmps39
  go_wp2_with fail
  refine H.out.mono ?_
  rintro e w1 ⟨v1, rfl, o1, b1⟩
  have N1 := Lib.hid (NamIn.of_owns o1)
  obtain ⟨a, cap, rfl, hcc⟩ := NamIn.of_owns o1
  have O1 := Lib.hid o1
  have B1 := Lib.hid b1
  clear o1 b1 hcc
  have hcap : Hid (all.length ≤ cap) := by
    obtain ⟨_, (⟨h, h'⟩ | ⟨g, cap', cur, h, _, _, h5, _⟩)⟩ := O1.out
    · rw [h']; exact Nat.zero_le _
    · injection h with _ _ e; unfold Hid; rw [e]; exact h5
  go_wp2_with fail
  case inl =>
    go_ret
    have hck : cap = k := by assumption
    have hkk : all.length ≤ k := by have := hcap.out; omega
    have hL : L = [] := by rw [HL.out]; exact List.drop_eq_nil_of_le hkk
    refine ⟨_, rfl, ⟨a, 0, ?_, fun j hj => ?_⟩, B1.out⟩
    · have e : all.length - k = L.length := by rw [hL]; simp; omega
      rw [← e]; rfl
    · rw [hL] at hj; simp at hj
  case inr =>
    go_ret
    have hlen : all.length - k = L.length := by rw [HL.out, List.length_drop]
    refine ⟨_, rfl, ⟨a.map (·.add k), cap - k, ?_, fun j hj => ?_⟩, B1.out⟩
    · rw [← hlen]; rfl
    · obtain ⟨a', cap', e, hcell⟩ := N1.out
      cases e
      have hj' : k + j < all.length := by omega
      obtain ⟨g, off, rfl, hc⟩ := hcell (k + j) hj'
      refine ⟨g, off + k, by simp [addr_add], ?_⟩
      have e : L[j] = all[k + j] := by simp [HL.out]
      rw [e, Nat.add_assoc]; exact hc

theorem containsS_mem (zs : List (List UInt8)) (x : List UInt8) : Lib.containsS (zs.map strV) (strV x) = decide (x ∈ zs) := by
  rw [Bool.eq_iff_iff, Lib.containsS_iff, decide_eq_true_eq]
  constructor
  · intro h
    obtain ⟨y, hy, e⟩ := List.mem_map.1 h
    rw [← strV_inj.1 e]; exact hy
  · intro h; exact List.mem_map_of_mem h
theorem contains_calls (zs : List (List UInt8)) (v : Value) (x : List UInt8) (w : World) (hv : NamIn w v zs) (hn : zs.length ≤ 67108864) :
    Calls Tryd.prog 42 #[v, .string (strV x)] w fun e w' => e = .returned (.bool (decide (x ∈ zs))) ∧ w' = w := by
  obtain ⟨a, cap, rfl, hc⟩ := hv
  cases zs with
  | nil => exact (Tryd.slices_Contains_string_empty a cap (strV x) w).mono fun e w' ⟨he, hw⟩ => ⟨by simpa using he, hw⟩
  | cons y zs =>
    obtain ⟨g, off, rfl, _⟩ := hc 0 (by simp)
    have h := Tryd.slices_Contains_string g off (y :: zs).length cap ((y :: zs).map strV) (strV x) w (by simp) (by omega) (fun j hj => by
      have hj' : j < (y :: zs).length := by simpa using hj
      obtain ⟨g', off', e, h⟩ := hc j hj'
      cases e
      rw [h, List.getD_eq_getElem?_getD, List.getElem?_map, List.getElem?_eq_getElem hj']
      rfl)
    have e : (List.map strV (y :: zs)).take (y :: zs).length = List.map strV (y :: zs) := List.take_of_length_le (by simp)
    rw [e, containsS_mem] at h
    exact h
/-- the closure of retain.Keep: is a name among those that stay -/
theorem keep1_calls (zs : List (List UInt8)) (v : Value) (x : List UInt8) (B : Nat) (W : World) (hc : W.cell? ⟨B, 0, none⟩ = some v) (hv : NamIn W v zs) (hn : zs.length ≤ 67108864) :
    Calls Tryd.prog 41 #[.string (strV x), .pointer (some ⟨B, 0, none⟩)] W fun e w' => e = .returned (.bool (decide (x ∈ zs))) ∧ w' = W := by
  have H := Lib.hid (contains_calls zs v x W hv hn)
  obtain ⟨a, cap, rfl, _⟩ := hv
  generalize decide (x ∈ zs) = b at *
  go_enter Tryd.func41, Tryd.ntmps41
  go_wp2_with (go_at_call 42; refine H.out.mono ?_; rintro e w' ⟨rfl, rfl⟩)
  go_ret
  exact ⟨rfl, rfl⟩

/-- an append of names, nil ones too, onto a row of one's own -/
theorem run_append_names (w : World) (base ty : TypeId) (i : TypeInfo) (hi : Tryd.prog.info? 9 = some i) (hz : i.zero = some (.string ByteArray.empty)) (hsize : i.size = 1) (hby : i.bytes = 16)
    (v : Value) (l : List (List UInt8)) (hown : w.ownsRow base 9 1 v l.length (namC l)) (x : Value) (m : List (List UInt8)) (hx : NamIn w x m) (hb : l.length + m.length ≤ 134217728) (hbase : base ≤ w.heap.size) :
    ∃ v' w', (Builtin.append_ #[46, 46] ty #[v, x]).run Tryd.prog w = .ok v' w' ∧ w'.ownsRow base 9 1 v' (l ++ m).length (namC (l ++ m)) ∧ w.grownBy w' v.ownBlock ∧ (v'.ownBlock = v.ownBlock ∨ v'.ownBlock = some w.heap.size) := by
  obtain ⟨a, cap, rfl, hc⟩ := hx
  cases a with
  | none =>
    have hm : m = [] := by
      cases m with
      | nil => rfl
      | cons y m => obtain ⟨_, _, e, _⟩ := hc 0 (by simp); cases e
    subst hm
    have hs : ∃ A n c, v = .slice A n c ∧ n ≤ c := by
      obtain ⟨_, (⟨rfl, _⟩ | ⟨g, cap', cur, rfl, _, _, h5, _⟩)⟩ := hown
      · exact ⟨none, 0, 0, rfl, Nat.le_refl _⟩
      · exact ⟨_, _, _, rfl, h5⟩
    obtain ⟨A, n, c, rfl, hnc⟩ := hs
    refine ⟨.slice A n c, w, ?_, by rw [List.append_nil]; exact hown, ⟨rfl, rfl, rfl, Nat.le_refl _, fun _ _ _ => rfl⟩, .inl rfl⟩
    have u46 := Tryd.underlying46
    cases A <;> simp [Builtin.append_, Builtin.lenOf, Builtin.firstCells, go_sem, hnc, storeCells]
  | some ad =>
    have hsp : ∀ (hm : 0 < m.length), ad.spot = none := fun hm => by obtain ⟨g, off, e, _⟩ := hc 0 hm; cases e; rfl
    obtain ⟨v', w', h1, h2, h3, _, h5⟩ := run_append_own_at (P := Tryd.prog) w base 46 ty 9 i (.string ByteArray.empty) 1 16 Tryd.underlying46 hi hz hsize hby rfl (by decide) v l.length (namC l) hown ad m.length cap (namC m) (by simp [namC])
      (fun j u hj => by
        have hjl : j < m.length := by have := (List.getElem?_eq_some_iff.1 hj).1; simpa [namC] using this
        obtain ⟨g, off, e, hcell⟩ := hc j hjl
        cases e
        rw [addr_add, hcell]
        simpa [namC, hjl] using hj)
      (fun u hu => by obtain ⟨y, _, rfl⟩ := List.mem_map.1 hu; rfl) (by unfold maxLen; omega) (by omega) hbase
    refine ⟨v', w', h1, ?_, h3, h5⟩
    rw [List.length_append]
    have e : namC (l ++ m) = namC l ++ namC m := by simp [namC]
    rw [e]; exact h2
end Go.Proofs.YtolaecdopfmbgaaDoor
