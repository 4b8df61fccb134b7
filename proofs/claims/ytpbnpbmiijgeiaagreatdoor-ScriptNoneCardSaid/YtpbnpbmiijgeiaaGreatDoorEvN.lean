/- An evaluator of the program's code, fourteenth part: each operation does what the evaluator says. No condition. -/
import Derived.Test.YtpbnpbmiijgeiaaGreatDoorEvM
namespace Go.Proofs.YtpbnpbmiijgeiaaGreatDoor.Ev
open Go Go.RowKit

section
variable {P : Program} {w : World} {c : Ctx} {h h' : Mem} {n n' : Nat} {w₀ : World} {N : Nat} {μ : Mu} {T : AMem}

theorem run_eqGuard {op : BinOp} {t : TypeId} {x y : Operand} {a b : Value} (h1 : ¬ (a = .nilIface ∧ b = .nilIface)) (h2 : ∀ xs ys, ¬ (a = .agg xs ∧ b = .agg ys)) : (eqGuard op t x y a b).run P w = .ok () w := by
  unfold eqGuard
  cases op
  case eql | neq =>
    simp only [Bool.not_true, Bool.false_eq_true, if_false]
    split
    · exact absurd ⟨rfl, rfl⟩ h1
    · exact absurd ⟨rfl, rfl⟩ (h2 _ _)
    · rfl
  all_goals rfl

theorem run_equal {t : TypeId} {a b a' b' : Value} {q : Bool} (ha : VR μ a a') (hb : VR μ b b') (hk : eqKind P t a b = true) (hq : aEqNil a b = some q) : (Op.equal t a' b').run P w = .ok q w := by
  unfold eqKind at hk
  have hu : ∃ d, P.underlying t = some d := by
    cases hu : P.underlying t with
    | none => simp [hu] at hk
    | some d => exact ⟨d, rfl⟩
  obtain ⟨d, hu⟩ := hu
  rw [hu] at hk
  unfold Op.equal Op.maxDepth
  rw [Op.equalIn.eq_def]
  simp only [Sem.run_bind, run_underlying hu, Result.andThen_ok]
  cases ha <;> cases hb <;> simp only [aEqNil] at hq <;> (first | (cases hq; done) | skip) <;> simp only [Option.some.injEq] at hq <;> subst hq <;> cases d <;> simp at hk <;> simp

theorem aBin_sound {op : BinOp} {t yt : TypeId} {x y : Operand} {a b a' b' r : Value} (ha : VR μ a a') (hb : VR μ b b') (he : aBin P op t x y a b = some r) : ∃ r', (do eqGuard op t x y a' b'; binOp op t a' b' : Sem Value).run P w = .ok r' w ∧ VR μ r r' := by
  unfold aBin at he
  cases hat : (atom 3 a && atom 3 b) with
  | true =>
    simp only [hat, cond_true] at he
    simp only [Bool.and_eq_true] at hat
    have e1 := atom_eq 3 hat.1 ha
    have e2 := atom_eq 3 hat.2 hb
    subst e1; subst e2
    obtain ⟨h1, h2⟩ := run_pureV (μ := μ) he w
    exact ⟨r, h1, h2⟩
  | false =>
    simp only [hat, cond_false] at he
    have hg : ∀ {q : Bool}, eqKind P t a b = true → aEqNil a b = some q → (eqGuard op t x y a' b').run P w = .ok () w := by
      intro q hk hq
      refine run_eqGuard ?_ ?_
      · rintro ⟨rfl, rfl⟩; cases ha; cases hb; simp [aEqNil] at hq
      · rintro xs ys ⟨rfl, rfl⟩; cases ha; cases hb; simp [aEqNil] at hq
    have hbin : ∀ {q : Bool}, eqKind P t a b = true → aEqNil a b = some q → ((binOp .eql t a' b').run P w = .ok (.bool q) w ∧ (binOp .neq t a' b').run P w = .ok (.bool (!q)) w) := by
      intro q hk hq
      have := run_equal (w := w) ha hb hk hq
      cases ha <;> cases hb <;> simp only [aEqNil] at hq <;> (first | (cases hq; done) | skip) <;> simp [binOp, this]
    split at he
    · cases hk : eqKind P t a b with
      | false => simp [hk] at he
      | true =>
      simp only [hk, cond_true] at he
      obtain ⟨q, hq, rfl⟩ := Option.map_eq_some_iff.1 he
      exact ⟨.bool q, by simp [hg hk hq, (hbin hk hq).1], .bool q⟩
    · cases hk : eqKind P t a b with
      | false => simp [hk] at he
      | true =>
      simp only [hk, cond_true] at he
      obtain ⟨q, hq, rfl⟩ := Option.map_eq_some_iff.1 he
      exact ⟨.bool (!q), by simp [hg hk hq, (hbin hk hq).2], .bool _⟩
    · cases he


theorem aLen_sound {ts : Array TypeId} {ty t : TypeId} {x x' r : Value} (h0 : ts[0]? = some t) (hw : WR w₀ N μ T w) (hv : View c h T) (hx : VR μ x x') (he : aLen P c h t x = some r) : ∃ r', (Builtin.len_ ts ty #[x']).run P w = .ok r' w ∧ VR μ r r' := by
  unfold aLen at he
  split at he <;> first | (cases he; done) | skip
  · rename_i s hu
    cases he; cases hx
    exact ⟨goInt s.size, by simp [Builtin.len_, h0, run_underlying hu], .int _ _⟩
  · rename_i k e hu
    cases he
    exact ⟨goInt k, by simp [Builtin.len_, h0, run_underlying hu], .int _ _⟩
  · rename_i e b l cap hu
    cases he
    refine ⟨goInt l, ?_, .int _ _⟩
    cases hx <;> simp [Builtin.len_, h0, run_underlying hu]
  · rename_i k e hu
    cases he; cases hx
    exact ⟨goInt 0, by simp [Builtin.len_, h0, run_underlying hu], .int _ _⟩
  · rename_i k e b hu
    obtain ⟨es, hes, rfl⟩ := Option.map_eq_some_iff.1 he
    cases hx with
    | map _ L hL =>
    unfold entriesAt at hes
    split at hes
    · rename_i es0 hl
      cases hes
      obtain ⟨L', h1, h2, es', ck, h3, h4, _⟩ := hw.obj _ _ (hv _ _ hl)
      rw [hL] at h1; cases h1
      exact ⟨goInt es'.size, by simp [Builtin.len_, h0, run_underlying hu, getObj, Sem.run, h3], by rw [h4]; exact .int _ _⟩
    · cases hes

theorem aCap_sound {ts : Array TypeId} {ty t : TypeId} {x x' r : Value} (h0 : ts[0]? = some t) (hx : VR μ x x') (he : aCap P t x = some r) : ∃ r', (Builtin.cap_ ts ty #[x']).run P w = .ok r' w ∧ VR μ r r' := by
  unfold aCap at he
  split at he <;> first | (cases he; done) | skip
  · rename_i k e hu
    cases he
    exact ⟨goInt k, by simp [Builtin.cap_, h0, run_underlying hu], .int _ _⟩
  · rename_i e b l k hu
    cases hb : Nat.ble (k + 1) OPEN with
    | false => simp [hb] at he
    | true =>
    simp only [hb, cond_true, Option.some.injEq] at he
    subst he
    have hk := ble.1 hb
    refine ⟨goInt k, ?_, .int _ _⟩
    cases hx with
    | nils => simp [Builtin.cap_, h0, run_underlying hu]
    | sl => simp [Builtin.cap_, h0, run_underlying hu]
    | slo _ _ _ q u L a c' hL hl hc hu' hb' ha =>
      exfalso
      have : OPEN * 1 ≤ OPEN * u := Nat.mul_le_mul_left _ hu'
      omega

set_option maxHeartbeats 1000000 in
theorem run_append_growZ {ts : Array TypeId} {ty t t1 e s : Nat} {ik : IntKind} {i : TypeInfo} {z : Value} {base : Option Addr} {len cap' m : Nat} {old : List Value} (h0 : ts[0]? = some t) (h1 : ts[1]? = some t1)
    (hu : P.underlying t = some (.slice e)) (hu1 : P.underlying t1 = some (.int ik)) (hs : sizeT P e = some s) (hi : P.info? e = some i) (hz : zeroT P e = some z) (hzs : z.cells.size = s) (hs1 : 1 ≤ s) (hby : 1 ≤ i.bytes) (hm : m ≠ 0)
    (hold : ∀ w₁ : World, w₁.heap = w.heap → (Builtin.firstCells s len (.slice base len cap')).run P w₁ = .ok old.toArray w₁) (hgrow : cap' < len + m) (hbig : (len + m) * i.bytes ≤ 4294967296) (hbig2 : len + m ≤ 4294967296) :
    ∃ c'', len + m ≤ c'' ∧ ∃ rest : List Value, rest.length = (c'' - (len + m)) * s ∧
      (Builtin.append_ ts ty #[.slice base len cap', .int .i64 (m : Int)]).run P w = .ok (.slice (some ⟨w.heap.size, 0, none⟩) (len + m) c'') (({ w with drawn := w.drawn + 1 } : World).alloc (.cells ((old ++ (List.replicate m z.cells.toList).flatten) ++ rest).toArray e)) := by
  refine ⟨len + m + (w.tape w.drawn (.appendCap (len + m) cap' e)) % (2 ^ 63 - (len + m)), by omega, (Builtin.zeroCells z.cells ((w.tape w.drawn (.appendCap (len + m) cap' e)) % (2 ^ 63 - (len + m)))).toList, ?_, ?_⟩
  · simp [Builtin.zeroCells, hzs]
  · have hfit := Go.growslice_fits hgrow (show (len + m) * i.bytes ≤ 140737488355328 by omega)
    have hb0 : i.bytes ≠ 0 := by omega
    have hsz := run_sizeT hs
    have hzv := fun w => (run_zeroT hz w).1
    have hne : ¬ (len + m ≤ cap') := by omega
    have hti : ∀ w, (typeInfo e).run P w = .ok i w := fun w => by simp [typeInfo, hi]
    have hfit' : ¬ (Builtin.nextslicecap (len + m) cap' * i.bytes > 2 ^ 48) := by
      have : (2 : Nat) ^ 48 = 281474976710656 := by decide
      omega
    have hwr : IntKind.i64.wrap (m : Int) = m := IntWalk.i64_in _ (by omega)
    have hA : ¬ ((m : Int) * (i.bytes : Int) > 2 ^ 48) := by
      have h2 : m * i.bytes ≤ (len + m) * i.bytes := Nat.mul_le_mul_right _ (by omega)
      have h3 : ((m * i.bytes : Nat) : Int) ≤ 4294967296 := by omega
      rw [Int.natCast_mul] at h3
      have : (2 : Int) ^ 48 = 281474976710656 := by decide
      omega
    have hmx : ¬ (((len + m : Nat) : Int) > IntKind.i64.max) := by
      have : IntKind.i64.max = 9223372036854775807 := by decide
      omega
    have hms : ¬ (m * s = 0) := by
      intro e0
      rcases Nat.mul_eq_zero.1 e0 with e1 | e1 <;> omega
    have hold1 := hold w.drew rfl
    have hhs : w.drew.heap.size = w.heap.size := rfl
    have hmx' : ¬ (IntKind.i64.max < (len : Int) + (m : Int)) := by omega
    have hA' : ¬ (281474976710656 < (m : Int) * (i.bytes : Int)) := by
      have : (2 : Int) ^ 48 = 281474976710656 := by decide
      omega
    have hzc : Builtin.zeroCells z.cells m = (List.replicate m z.cells.toList).flatten.toArray := zeros_eq z.cells m (by omega)
    have hs0 : ¬ s = 0 := by omega
    have hneg : ¬ ((m : Int) < 0) := by omega
    have hmx2 : ¬ (9223372036854775807 < (len : Int) + (m : Int)) := by omega
    unfold Builtin.append_
    simp [h0, h1, run_underlying hu, run_underlying hu1, hsz, asInt, asIntOf, hwr, hA', hne, hti, hb0, hfit', hmx', hneg, hmx2, hms, Question.forced, hold1, hzv, Question.cut, newRow, hhs, hm, hs0, hzc]
    congr 2
    apply Array.ext'
    simp

theorem aAppendZ_sound {ts : Array TypeId} {ty t t1 e s : Nat} {ik : IntKind} (h0 : ts[0]? = some t) (h1 : ts[1]? = some t1) (hu : P.underlying t = some (.slice e)) (hu1 : P.underlying t1 = some (.int ik)) (hs : sizeT P e = some s) {v v' x x' r : Value}
    (hw : WR w₀ N μ T w) (hv : View c h T) (hf : Fresh μ T n n') (hvv : VR μ v v') (hx : VR μ x x') (he : aAppendZ P c h n e s v x = some (r, h', n')) :
    Gives P c h' n n' w₀ N μ T w r (Builtin.append_ ts ty #[v', x']) := by
  unfold aAppendZ at he
  split at he
  case h_2 => cases he
  rename_i m z hz
  cases hx
  cases hb : (Nat.beq m 0 || !(Nat.beq z.cells.size s)) with
  | true => simp [hb] at he
  | false =>
  simp only [hb, cond_false] at he
  simp only [Bool.or_eq_false_iff, Bool.not_eq_false'] at hb
  have hm : m ≠ 0 := beqF.1 hb.1
  have hzs := Tri.beq_true.1 hb.2
  have grow : ∀ {base : Option Addr} {len cap' : Nat} {old old' : List Value}, aGrow P h n e s (len + m) (old ++ (List.replicate m z.cells.toList).flatten) = some (r, h', n') →
      (∀ w₁ : World, w₁.heap = w.heap → (Builtin.firstCells s len (.slice base len cap')).run P w₁ = .ok old'.toArray w₁) → cap' < len + m → VRs μ old old' → old.length = len * s →
      Gives P c h' n n' w₀ N μ T w r (Builtin.append_ ts ty #[.slice base len cap', .int .i64 (m : Int)]) := by
    intro base len cap' old old' he hold hgrow ho hol
    unfold aGrow at he
    split at he
    case h_2 => cases he
    rename_i i z' hi hz'
    rw [hz] at hz'; cases hz'
    cases hb2 : (Nat.ble ((len + m) * (i.bytes + 1)) BIG && (Nat.beq z.cells.size s && (Nat.ble 1 s && Nat.ble 1 i.bytes))) with
    | false => simp [hb2] at he
    | true =>
    simp only [hb2, cond_true] at he
    simp only [Bool.and_eq_true] at hb2
    obtain ⟨b1, b2, b3, b4⟩ := hb2
    have hbig := ble.1 b1
    have hs1 := ble.1 b3
    have hby := ble.1 b4
    obtain ⟨⟨h1', n1⟩, ha, hre⟩ := Option.map_eq_some_iff.1 he
    simp only [Prod.mk.injEq] at hre
    obtain ⟨rfl, rfl, rfl⟩ := hre
    have hB : (BIG : Nat) = 4294967296 := rfl
    have hbig2 : (len + m) * i.bytes + (len + m) ≤ 4294967296 := by rw [Nat.mul_add, Nat.mul_one] at hbig; omega
    obtain ⟨c'', hc, rest, hrl, hrun⟩ := run_append_growZ (P := P) (w := w) (ty := ty) h0 h1 hu hu1 hs hi hz hzs hs1 hby hm hold hgrow (by omega) (by omega)
    have hzz := flatten_VRs (zero_VRs (μ := μ) hz) m
    have hx := ho.append hzz
    have hp := wr_cells (rest := rest) (t := e) hw.drew hv ha hf hx
    refine ⟨_, _, _, _, hrun, hp, ?_⟩
    have hnl : (List.replicate m z.cells.toList).flatten.length = m * s := by simp [hzs]
    have hlen2 : ((old' ++ (List.replicate m z.cells.toList).flatten) ++ rest).length = c'' * s := by
      rw [List.length_append, hrl, ← hx.1, List.length_append, hol, hnl, Nat.sub_mul]
      have : (len + m) * s ≤ c'' * s := Nat.mul_le_mul_right s hc
      rw [Nat.add_mul] at this ⊢
      omega
    exact .slo _ 0 _ _ s _ _ c'' (upd_same _ _ _) (Nat.le_refl _) hc hs1 (by unfold OPEN; omega) (fun _ => ⟨by simp, by simp only [hlen2]; omega⟩)
  split at he
  · rename_i len cap
    cases hb2 : (Nat.beq len 0 && Nat.beq cap 0) with
    | false => simp [hb2] at he
    | true =>
    simp only [hb2, cond_true] at he
    cases hvv
    exact grow (base := none) (len := 0) (cap' := 0) (old := []) (old' := []) (by simpa using he) (fun w₁ _ => by simp [Builtin.firstCells]) (by omega) VRs.nil (by simp)
  · rename_i b o len cap
    cases hb2 : (Nat.beq (cap / OPEN) 0 && Nat.ble (cap + 1) (len + m)) with
    | false => simp [hb2] at he
    | true =>
    simp only [hb2, cond_true] at he
    simp only [Bool.and_eq_true] at hb2
    have hu0 := Tri.beq_true.1 hb2.1
    have hlt := ble.1 hb2.2
    cases hvv with
    | slo _ _ _ q u L a c' hL hl hc hu' hb' ha =>
      exfalso
      rw [Nat.mul_add_div (by unfold OPEN; omega), Nat.div_eq_of_lt hb'] at hu0
      omega
    | sl _ _ _ _ L a hL hl hc ha =>
      split at he
      case h_2 => cases he
      rename_i old hold
      cases hz0 : Nat.beq len 0 with
      | true =>
        simp only [hz0, cond_true, Option.some.injEq] at hold
        subst hold
        have := Tri.beq_true.1 hz0
        subst this
        exact grow (old' := []) he (fun w₁ hh => by simp [Builtin.firstCells, loadCells, loadCellsFrom]) (by omega) VRs.nil (by simp)
      | false =>
        simp only [hz0, cond_false] at hold
        obtain ⟨cs, hc2, hp⟩ := Option.bind_eq_some_iff.1 hold
        obtain ⟨p', q1, q2, q3⟩ := read_piece hw hv hL hc2 hp
        have hne : len ≠ 0 := beqF.1 hz0
        have := ha (by omega)
        subst this
        refine grow (old' := p') he (fun w₁ hh => ?_) (by omega) q1 (piece_some hp).1
        have := run_loadCells_list (P := P) w₁ ⟨L.blk, L.off + o, none⟩ p' (fun j v hj => by have := q3 j v hj; unfold World.cell? at this ⊢; rw [hh]; exact this)
        rw [q2] at this
        simp [Builtin.firstCells, this]
  · cases he

theorem aBuiltin_sound {b : Builtin} {ts : Array TypeId} {ty : TypeId} {cs : Array Bool} {args args' : List Value} {r : Value} (hw : WR w₀ N μ T w) (hv : View c h T) (hf : Fresh μ T n n') (hx : VRs μ args args')
    (he : aBuiltin P c h n b ts args = some (r, h', n')) : ∃ s : Sem Value, builtin b ts ty cs args'.toArray = (do pure (.value (← s))) ∧ Gives P c h' n n' w₀ N μ T w r s := by
  unfold aBuiltin at he
  split at he
  · rename_i t x h0
    obtain ⟨e, rfl, rfl⟩ := keepN_some he
    obtain ⟨x', _, rfl, h1, h2⟩ := hx.uncons
    obtain rfl := h2.unnil
    obtain ⟨r', q1, q2⟩ := aLen_sound (ty := ty) h0 hw hv h1 e
    exact ⟨_, rfl, gives_same hw hv q1 q2⟩
  · rename_i t x h0
    obtain ⟨e, rfl, rfl⟩ := keepN_some he
    obtain ⟨x', _, rfl, h1, h2⟩ := hx.uncons
    obtain rfl := h2.unnil
    obtain ⟨r', q1, q2⟩ := aCap_sound (P := P) (w := w) (ty := ty) h0 h1 e
    exact ⟨_, rfl, gives_same hw hv q1 q2⟩
  · rename_i t s x h0
    obtain ⟨s', _, rfl, h1, h2⟩ := hx.uncons
    obtain ⟨x', _, rfl, h3, h4⟩ := h2.uncons
    obtain rfl := h4.unnil
    split at he
    · rename_i e t1 he1 ht1
      split at he <;> first | (cases he; done) | skip
      · rename_i k ik hk hd
        exact ⟨_, rfl, aAppendZ_sound h0 ht1 (sliceT_some he1) hd hk hw hv hf h1 h3 he⟩
      rename_i k d hne hk hd
      have hd' : isIntD d = false := by
        cases d <;> first | rfl | exact absurd rfl (hne _)
      exact ⟨_, rfl, aAppend_sound ⟨h0, ht1, sliceT_some he1, hd, hd', hk⟩ hw hv hf h1 h3 he⟩
    · cases he
  · rename_i t d x h0
    obtain ⟨d', _, rfl, h1, h2⟩ := hx.uncons
    obtain ⟨x', _, rfl, h3, h4⟩ := h2.uncons
    obtain rfl := h4.unnil
    exact ⟨_, rfl, aCopy_sound h0 hw hv h1 h3 he⟩
  · rename_i t x h0
    obtain ⟨x', _, rfl, h1, h2⟩ := hx.uncons
    obtain rfl := h2.unnil
    exact ⟨_, rfl, aClear_sound h0 hw hv h1 he⟩
  · rename_i t m k h0
    obtain ⟨m', _, rfl, h1, h2⟩ := hx.uncons
    obtain ⟨k', _, rfl, h3, h4⟩ := h2.uncons
    obtain rfl := h4.unnil
    split at he
    · rename_i h1' hd
      simp only [Option.some.injEq, Prod.mk.injEq] at he
      obtain ⟨rfl, rfl, rfl⟩ := he
      exact ⟨_, rfl, aDelete_sound h0 hw hv h1 h3 hd⟩
    · cases he
  · rename_i x rest
    cases ha : (x :: rest).all (atom 0) with
    | false => simp [ha] at he
    | true =>
    simp only [ha, cond_true] at he
    obtain ⟨e, rfl, rfl⟩ := keepN_some he
    have := VRs.atoms hx ha
    subst this
    obtain ⟨q1, q2⟩ := run_pureV (μ := μ) e w
    exact ⟨_, rfl, gives_same hw hv q1 q2⟩
  · rename_i x rest
    cases ha : (x :: rest).all (atom 0) with
    | false => simp [ha] at he
    | true =>
    simp only [ha, cond_true] at he
    obtain ⟨e, rfl, rfl⟩ := keepN_some he
    have := VRs.atoms hx ha
    subst this
    obtain ⟨q1, q2⟩ := run_pureV (μ := μ) e w
    exact ⟨_, rfl, gives_same hw hv q1 q2⟩
  · cases he

end
end Go.Proofs.YtpbnpbmiijgeiaaGreatDoor.Ev
