/- slices.DeleteFunc of the names that stay; an append of names as one step of a region that draws. -/
import Derived.Test.YtolaecdopfmbgaaDoorRr
namespace Go.Proofs.YtolaecdopfmbgaaDoor
open Go.RowKit Go.Shelf Go.Sort

theorem step_append_names {ops : Array Oper} {o : Oper} {a : Act} {w : World} {K : Act → World → Prop} {Q : Exit → Act → World → Prop} {E : Prop} (hg : o.guard = none) (s x : Operand)
    (ho : o.op = .call { callee := .builtin .append, args := #[s, x], argTypes := #[46, 46] })
    (base : Nat) (i : TypeInfo) (hi : Tryd.prog.info? 9 = some i) (hz : i.zero = some (.string ByteArray.empty)) (hsize : i.size = 1) (hby : i.bytes = 16)
    (v : Value) (l : List (List UInt8)) (hs : a.eval s = v) (hown : w.ownsRow base 9 1 v l.length (namC l)) (xv : Value) (hxv : a.eval x = xv) (m : List (List UInt8)) (hx : NamIn w xv m) (hb : l.length + m.length ≤ 134217728) (hbase : base ≤ w.heap.size)
    (h : ∀ v' w', w'.ownsRow base 9 1 v' (l ++ m).length (namC (l ++ m)) → w.grownBy w' v.ownBlock → (v'.ownBlock = v.ownBlock ∨ v'.ownBlock = some w.heap.size) → K (a.put o.dst v') w') :
    if Region.wanted o (yielded ops a.tmps) = true then Oper.wp Tryd.prog o a w K Q else E := by
  rw [if_pos (by simp [Region.wanted, hg])]
  obtain ⟨v', w', hr, h2, h3, h4⟩ := run_append_names w base o.type i hi hz hsize hby v l hown xv m hx hb hbase
  unfold Oper.wp execOp
  simp only [ho, resolve, invoke, builtin, Sem.run_bind, Sem.run_pure, Result.andThen_ok, List.map_toArray, List.map_cons, List.map_nil, hs, hxv, hr]
  exact h v' w' h2 h3 h4
theorem owns_slice {w : World} {b : Nat} {e : TypeId} {z : Nat} {v : Value} {n : Nat} {xs : List Value} (h : w.ownsRow b e z v n xs) : ∃ A c, v = .slice A n c := by
  obtain ⟨_, (⟨rfl, h⟩ | ⟨g, cap', cur, rfl, _⟩)⟩ := h
  · rw [h]; exact ⟨none, 0, rfl⟩
  · exact ⟨_, _, rfl⟩
theorem zero9 : ∀ w, (zeroValue 9).run Tryd.prog w = .ok (encStr []) w := fun w => (Tryd.zeroValue9 w)
set_option maxHeartbeats 1000000 in
theorem delete0_calls (fv : Value) (w : World) : Calls Tryd.prog 40 #[.slice none 0 0, fv] w fun e w' => e = .returned (.slice none 0 0) ∧ w' = w := by
  have H : ∀ W, Calls Tryd.prog 69 #[.slice none 0 0, fv] W fun e w' => e = .returned (.int .i64 (-1)) ∧ w' = W := fun W => by
    go_enter Tryd.func69, Tryd.ntmps69
    go_wp2
    go_loopw [8] (fun i wr => i = .int .i64 0 ∧ wr = W) (fun _ _ => 0)
    case atStart => exact ⟨rfl, rfl⟩
    case round =>
      obtain ⟨rfl, rfl⟩ := hrel
      go_wp2
      go_ret
      exact ⟨rfl, rfl⟩
  have HH := Lib.hid H
  clear H
  go_enter Tryd.func40, Tryd.ntmps40
  go_wp2_with (go_at_call 69; refine (HH.out _).mono ?_; rintro e w' ⟨rfl, rfl⟩)
  go_ret
  exact ⟨rfl, rfl⟩
/-- the names that go, in the row of all -/
theorem delete_calls (all stay : List (List UInt8)) (v6 v : Value) (base T : Nat) (w : World) (h6 : w.ownsRow base 9 1 v6 all.length (namC all)) (hT : w.cell? ⟨T, 0, none⟩ = some v) (hv : NamIn w v stay) (hn : stay.length ≤ 67108864) (hm : all.length ≤ 1048576)
    (hT6 : v6.ownBlock ≠ some T) (hap : ∀ A n c, v = .slice A n c → ∀ a, A = some a → v6.ownBlock ≠ some a.block) :
    Calls Tryd.prog 40 #[v6, .func (.func 41) #[] #[.pointer (some ⟨T, 0, none⟩)]] w fun e w' => ∃ v2, e = .returned v2 ∧ w'.ownsRow base 9 1 v2 (all.filter fun s => !decide (s ∈ stay)).length (namC (all.filter fun s => !decide (s ∈ stay))) ∧ w.grownBy w' v6.ownBlock := by
  have h6' := h6
  obtain ⟨hlen, (⟨rfl, h2⟩ | ⟨g, cap, cur, rfl, h3, h4, h5, h6c, h7, h8⟩)⟩ := h6
  · have : all = [] := List.eq_nil_of_length_eq_zero h2
    subst this
    exact (delete0_calls _ w).mono fun e w' ⟨he, hw⟩ => ⟨_, he, by rw [hw]; exact h6', by rw [hw]; exact ⟨rfl, rfl, rfl, Nat.le_refl _, fun _ _ _ => rfl⟩⟩
  · have eg : ∀ args w, (callFunc 41 args).run Tryd.prog w = .ok (.enter 41 args) w := enters_of Tryd.func41 (by kernel_rfl) rfl
    have hH : Holds encStr w g 0 all.toArray := holds_of_block h4 (by simpa [namC_enc] using h8)
    have hTw : T < w.heap.size := by
      unfold World.cell? at hT
      rcases Nat.lt_or_ge T w.heap.size with h' | h'
      · exact h'
      · rw [show w.heap[T]? = none from Array.getElem?_eq_none h'] at hT; simp at hT
    have hgT : T ≠ g := fun e => hT6 (by rw [e]; rfl)
    have hp : PredAt Tryd.prog 41 #[.pointer (some ⟨T, 0, none⟩)] encStr (fun x => decide (x ∈ stay)) w := fun W x hb =>
      (keep1_calls stay v x T W ((hb.cell (p := ⟨T, 0, none⟩) hTw).trans hT) (hv.below hb) hn).mono fun e w' ⟨he, hw⟩ => ⟨he, 0, hw⟩
    have hpo : PredOver Tryd.prog 41 #[.pointer (some ⟨T, 0, none⟩)] encStr (fun x => decide (x ∈ stay)) g 0 all.toArray.size w := fun n os dk x hs => by
      have hoth : ∀ (a : Addr), a.block ≠ g → a.block < w.heap.size → (sortWorld encStr w g 0 n dk os).cell? a = w.cell? a := fun a ha hlt => by
        unfold sortWorld
        rw [cell?_grow _ _ _ (by rw [size_putRow]; exact hlt), cell?_putRow_other _ _ _ _ _ _ (.inl ha)]
        rfl
      have hv2 : NamIn (sortWorld encStr w g 0 n dk os) v stay := by
        obtain ⟨a, c, rfl, hc⟩ := hv
        refine ⟨a, c, rfl, fun k hk => ?_⟩
        obtain ⟨g', off, rfl, hcell⟩ := hc k hk
        refine ⟨g', off, rfl, ?_⟩
        have hne : g' ≠ g := fun e => hap _ _ _ rfl _ rfl (by rw [e]; rfl)
        have hlt : g' < w.heap.size := by
          unfold World.cell? at hcell
          rcases Nat.lt_or_ge g' w.heap.size with h' | h'
          · exact h'
          · rw [show w.heap[g']? = none from Array.getElem?_eq_none h'] at hcell; simp at hcell
        rw [hoth ⟨g', off + k, none⟩ hne hlt]; exact hcell
      exact (keep1_calls stay v x T _ ((hoth ⟨T, 0, none⟩ hgT hTw).trans hT) hv2 hn).mono fun e w' ⟨he, hw⟩ => ⟨he, 0, hw⟩
    have h := Tryd.slices_DeleteFunc encStr (fun _ => rfl) (fun x => decide (x ∈ stay)) 41 #[.pointer (some ⟨T, 0, none⟩)] eg [] zero9 g 0 cap all.toArray w hp hpo hH (by simp; omega) (by simpa using h5)
    have ez : all.toArray.size = all.length := by simp
    rw [ez] at h
    generalize hF : (all.filter fun s => !decide (s ∈ stay)) = F at *
    have hFl : F.length ≤ all.length := by rw [← hF]; exact List.length_filter_le _ _
    have hl2 : (F ++ List.replicate (all.length - F.length) ([] : List UInt8)).length = all.length := by simp; omega
    have htk := take_putCells cur (F ++ List.replicate (all.length - F.length) []) (by rw [hl2]; omega)
    refine h.mono fun e w' ⟨he, q, hw⟩ => ⟨_, he, ?_, ?_⟩
    · have ew : w' = grow (putRow encStr (Sort.ahead w q) g 0 (F ++ List.replicate (all.length - F.length) []).toArray) #[] := by rw [grow_empty]; exact hw
      rw [ew]
      refine ⟨by simp [namC], .inr ⟨g, cap, _, rfl, h3, heap_sorted _ h4, by omega, h6c, by simp [putCells, h7], ?_⟩⟩
      have h9 := congrArg (List.take F.length) htk
      rw [List.take_take, hl2, Nat.min_eq_left hFl, ← List.map_take, List.take_append_of_le_length (by simp), List.take_of_length_le (Nat.le_refl _)] at h9
      rw [Nat.mul_one]
      exact h9
    · have ew : w' = grow (putRow encStr (Sort.ahead w q) g 0 (F ++ List.replicate (all.length - F.length) []).toArray) #[] := by rw [grow_empty]; exact hw
      rw [ew]; exact grownBy_sorted _
end Go.Proofs.YtolaecdopfmbgaaDoor
