/- An evaluator of the program's code, sixteenth part: every operation does what the evaluator says. No condition. -/
import Derived.Test.YtpbnpbmiijgeiaaGreatDoorEvO
namespace Go.Proofs.YtpbnpbmiijgeiaaGreatDoor.Ev
open Go Go.RowKit

section
variable {P : Program} {w : World} {c : Ctx} {h h' : Mem} {n n' : Nat} {w₀ : World} {N : Nat} {μ : Mu} {T : AMem}

theorem upd_VR {L : Loc} (hf : μ n = none) : ∀ b L', μ b = some L' → upd μ n (some L) b = some L' := by
  intro b L' hb
  rw [upd_other]
  · exact hb
  · rintro rfl; rw [hf] at hb; cases hb

theorem newRow_gives {xs xs' : List Value} {e : TypeId} {v' : Value} (hw : WR w₀ N μ T w) (hv : View c h T) (ha : aNew h n (.cells xs none) = some (h', n')) (hf : Fresh μ T n n') (hx : VRs μ xs xs') (hv' : v'.cells = xs'.toArray) :
    Gives P c h' n n' w₀ N μ T w (.pointer (some ⟨n, 0, none⟩)) (do pure (.pointer (some (← newVar e v')))) := by
  have hp := wr_cells (rest := []) (t := e) hw hv ha hf hx
  rw [List.append_nil] at hp
  refine ⟨.pointer (some ⟨w.heap.size, 0, none⟩), _, _, _, ?_, hp, ?_⟩
  · simp [newVar, newRow, hv']
  · have := VR.ptr (μ := upd μ n (some ⟨w.heap.size, 0, xs'.length⟩)) n 0 _ (upd_same _ _ _)
    exact this

theorem enters_some {f : FuncId} (he : enters P f = true) (args : Array Value) (w : World) : (callFunc f args).run P w = .ok (.enter f args) w := by
  unfold enters at he
  split at he
  · rename_i fn hfn
    simp only [Bool.and_eq_true, Bool.not_eq_true'] at he
    have h1 : ¬ fn.name = "runtime.NumGoroutine" := by simpa using he.2
    have h2 : ¬ fn.body = none := by intro e; rw [e] at he; simp at he
    simp [callFunc, hfn, h1, h2]
  · cases he

set_option maxHeartbeats 4000000 in
theorem evOp_sound {call : CallT} (hc : CallOK P call) {nt : Nat} {env : Env} {a : Act} {o : Oper} {r : Value} (hw : WR w₀ N μ T w) (hv : View c h T) (hf : Fresh μ T n n') (her : ER μ nt env a)
    (he : evOp call P c env h n o.op = some (r, h', n')) : Does P c h' n n' w₀ N μ T w r o a := by
  obtain ⟨dst, op, type, pos, after, guard⟩ := o
  have ho := fun x v => opv_sound hw her x v
  have hop := fun x v => opt_sound hw her x v
  -- an operation that leaves memory alone
  have same : ∀ {q : Option Value} {s : Sem Value}, execOp a.eval ⟨dst, op, type, pos, after, guard⟩ = (do pure (.value (← s))) → keepN h n q = some (r, h', n') → (∀ v, q = some v → ∃ r', s.run P w = .ok r' w ∧ VR μ v r') →
      Does P c h' n n' w₀ N μ T w r ⟨dst, op, type, pos, after, guard⟩ a := by
    intro q s hex hk hq
    obtain ⟨e, rfl, rfl⟩ := keepN_some hk
    obtain ⟨r', h1, h2⟩ := hq r e
    exact does_gives hex (gives_same hw hv h1 h2)
  cases op <;> simp only [evOp] at he <;> (first | (cases he; done) | skip)
  case move x =>
    exact same (s := pure (a.eval x)) rfl he fun v hv' => ⟨_, rfl, ho x v hv'⟩
  case assign x =>
    exact same (s := pure (a.eval x)) rfl he fun v hv' => ⟨_, rfl, ho x v hv'⟩
  case pick t x y =>
    split at he
    case h_2 => cases he
    rename_i q u v h1 h2 h3
    simp only [Option.some.injEq, Prod.mk.injEq] at he
    obtain ⟨rfl, rfl, rfl⟩ := he
    have ht := ho _ _ h1
    refine does_gives (s := do pure (if ← asBool (a.eval t) then a.eval x else a.eval y)) ?_ (gives_same hw hv (r' := bif q then a.eval x else a.eval y) ?_ ?_)
    · simp [execOp]
    · generalize a.eval t = q' at ht
      cases ht
      cases q <;> simp [asBool]
    · cases q
      · exact ho _ _ h3
      · exact ho _ _ h2
  case alloc e =>
    split at he
    case h_2 => cases he
    rename_i z hz
    obtain ⟨⟨h1, n1⟩, ha, hre⟩ := Option.map_eq_some_iff.1 he
    simp only [Prod.mk.injEq] at hre
    obtain ⟨rfl, rfl, rfl⟩ := hre
    obtain ⟨r', w', μ', T', h1, h2, h3⟩ := newRow_gives (P := P) (e := e) (v' := z) hw hv ha hf (zero_VRs hz) (by simp)
    refine does_gives (s := Instr.alloc e true (.tuple #[])) rfl ⟨r', w', μ', T', ?_, h2, h3⟩
    simp only [Instr.alloc, Sem.run_bind, (run_zeroT hz w).1, Result.andThen_ok]
    simpa using h1
  case box e x =>
    split at he
    case h_2 => cases he
    rename_i v hx
    obtain ⟨⟨h1, n1⟩, ha, hre⟩ := Option.map_eq_some_iff.1 he
    simp only [Prod.mk.injEq] at hre
    obtain ⟨rfl, rfl, rfl⟩ := hre
    exact does_gives (s := Instr.box e (a.eval x)) rfl (newRow_gives hw hv ha hf (ho _ _ hx).cells (by simp))
  case build t parts =>
    split at he
    case h_2 => cases he
    rename_i ps hps
    obtain ⟨q1, q2⟩ := aParts_sound (nt := nt) ho parts.toList ps hps
    refine same (s := Instr.build t (parts.map fun (i, x) => (i, a.eval x))) rfl he fun v hv' => ?_
    have := aBuild_sound (w := w) q1 q2 hv'
    rwa [show (List.map (fun p : Nat × Operand => (p.1, a.eval p.2)) parts.toList).toArray = parts.map fun (i, x) => (i, a.eval x) by apply Array.ext'; simp] at this
  case buildSlice t len parts =>
    split at he
    case h_2 => cases he
    rename_i ps hps
    obtain ⟨q1, q2⟩ := aParts_sound (nt := nt) ho parts.toList ps hps
    have := aBuildSlice_sound hw hv hf q1 q2 he
    rw [show (List.map (fun p : Nat × Operand => (p.1, a.eval p.2)) parts.toList).toArray = parts.map fun (i, x) => (i, a.eval x) by apply Array.ext'; simp] at this
    exact does_gives (s := Instr.buildSlice t len (parts.map fun (i, x) => (i, a.eval x))) rfl this
  case load t x =>
    split at he
    case h_2 => cases he
    rename_i v hx
    exact same (s := Instr.loadAt t (a.eval x)) rfl he fun u hu => aLoad_sound hw hv (ho _ _ hx) hu
  case store t x y =>
    split at he
    case h_2 => cases he
    rename_i v u hx hy
    unfold keepV at he
    split at he
    case h_2 => cases he
    rename_i h1 hst
    simp only [Option.some.injEq, Prod.mk.injEq] at he
    obtain ⟨rfl, rfl, rfl⟩ := he
    obtain ⟨w', T', q1, q2⟩ := aStore_sound (P := P) hw hv (ho _ _ hx) (ho _ _ hy) hst
    exact does_unit (s := Instr.storeAt t (a.eval x) (a.eval y)) rfl q1 q2
  case nilCheck x =>
    split at he <;> first | (cases he; done) | skip
    · rename_i ad hx
      simp only [Option.some.injEq, Prod.mk.injEq] at he
      obtain ⟨rfl, rfl, rfl⟩ := he
      have hr := ho _ _ hx
      refine does_gives (s := pure (a.eval x)) ?_ (gives_same hw hv rfl hr)
      simp only [execOp]
      generalize a.eval x = q at hr
      cases hr
      rfl
    · rename_i f xs ys hx
      simp only [Option.some.injEq, Prod.mk.injEq] at he
      obtain ⟨rfl, rfl, rfl⟩ := he
      have hr := ho _ _ hx
      refine does_gives (s := pure (a.eval x)) ?_ (gives_same hw hv rfl hr)
      simp only [execOp]
      generalize a.eval x = q at hr
      cases hr
      rfl
  case binOp op t x y yt =>
    split at he
    case h_2 => cases he
    rename_i u v hx hy
    exact same (s := do eqGuard op t x y (a.eval x) (a.eval y); binOp op t (a.eval x) (a.eval y)) rfl he fun r hr => aBin_sound (yt := yt) (ho _ _ hx) (ho _ _ hy) hr
  case unOp op t x =>
    split at he
    case h_2 => cases he
    rename_i u hx
    cases hat : atom 0 u with
    | false => simp [hat] at he
    | true =>
    simp only [hat, cond_true] at he
    have := atom_eq 0 hat (ho _ _ hx)
    refine same (s := Op.unary op (a.eval x)) rfl he fun r hr => ?_
    rw [← this]
    exact ⟨r, run_pureV hr w⟩
  case convert s d x =>
    split at he
    case h_2 => cases he
    rename_i u hx
    have hr := ho _ _ hx
    split at he
    · refine same (s := convert s d (a.eval x)) rfl he fun r hr' => ?_
      generalize a.eval x = q at hr
      cases hr
      exact ⟨r, run_pureV hr' w⟩
    · refine same (s := convert s d (a.eval x)) rfl he fun r hr' => ?_
      generalize a.eval x = q at hr
      cases hr
      exact ⟨r, run_pureV hr' w⟩
    · exact does_gives (s := convert s d (a.eval x)) rfl (aConvert_sound hw hv hf hr he)
  case makeInterface t x =>
    split at he
    case h_2 => cases he
    rename_i u hx
    split at he <;> first | (cases he; done) | skip
    rename_i d hne hu
    simp only [Option.some.injEq, Prod.mk.injEq] at he
    obtain ⟨rfl, rfl, rfl⟩ := he
    refine does_gives (s := Instr.makeInterface t (a.eval x)) rfl (gives_same hw hv (r' := .iface t (a.eval x)) ?_ (.iface _ _ _ (ho _ _ hx)))
    cases d <;> first | (exact absurd rfl (hne _)) | simp [Instr.makeInterface, run_underlying hu]
  case makeFunc fn xs ys =>
    split at he
    case h_2 => cases he
    rename_i us vs hx hy
    simp only [Option.some.injEq, Prod.mk.injEq] at he
    obtain ⟨rfl, rfl, rfl⟩ := he
    have h1 := opvs_sound ho _ _ hx
    have h2 := opvs_sound ho _ _ hy
    refine does_gives (s := Instr.makeFunc fn (xs.map a.eval) (ys.map a.eval)) rfl (gives_same hw hv (r' := .func fn (xs.map a.eval) (ys.map a.eval)) rfl ?_)
    rw [show xs.map a.eval = (xs.toList.map a.eval).toArray by apply Array.ext'; simp, show ys.map a.eval = (ys.toList.map a.eval).toArray by apply Array.ext'; simp]
    exact .func _ _ _ _ _ (by simpa using h1.1) (by simpa using h2.1) h1.to_array h2.to_array
  case makeMap t rv =>
    cases rv with
    | some _ => simp at he
    | none =>
    simp only [] at he
    obtain ⟨⟨h1, n1⟩, ha, hre⟩ := Option.map_eq_some_iff.1 he
    simp only [Prod.mk.injEq] at hre
    obtain ⟨rfl, rfl, rfl⟩ := hre
    have hp := wr_new (L := ⟨w.heap.size, 0, 1⟩) hw hv ha hf (.map #[] 0) rfl ⟨Nat.le_trans hw.low hw.below.size, #[], 0, heap_alloc_new _ _, rfl, fun i k v hk => by simp at hk⟩ rfl (fun _ _ => ⟨rfl, rfl⟩)
    refine does_gives (s := Instr.makeMap t none) rfl ⟨.map (some w.heap.size), _, _, _, ?_, hp, .map n _ (upd_same _ _ _)⟩
    simp [Instr.makeMap]
  case makeSlice t l k =>
    split at he
    case h_2 => cases he
    rename_i u v hx hy
    exact does_gives (s := Instr.makeSlice t (a.eval l) (a.eval k)) rfl (aMakeSlice_sound hw hv hf (ho _ _ hx) (ho _ _ hy) he)
  case slice t x lo hi mx =>
    split at he
    case h_2 => cases he
    rename_i u lo' hi' mx' hx hlo hhi hmx
    have hr := ho _ _ hx
    split at he
    · rename_i s
      cases hat : (lo'.all (atom 0) && (hi'.all (atom 0) && mx'.all (atom 0))) with
      | false => simp [hat] at he
      | true =>
      simp only [hat, cond_true] at he
      simp only [Bool.and_eq_true] at hat
      have oeq : ∀ {u v : Option Value}, u.all (atom 0) = true → OVR μ u v → u = v := by
        intro u v h1 h2
        cases u <;> cases v <;> first | rfl | exact h2.elim | skip
        rw [atom_eq 0 (by simpa using h1) h2]
      have e1 := oeq hat.1 (hop _ _ hlo)
      have e2 := oeq hat.2.1 (hop _ _ hhi)
      have e3 := oeq hat.2.2 (hop _ _ hmx)
      refine same (s := Instr.sliceAt t (a.eval x) (lo.map a.eval) (hi.map a.eval) (mx.map a.eval)) rfl he fun r hr' => ?_
      rw [← e1, ← e2, ← e3]
      generalize a.eval x = q at hr
      cases hr
      exact ⟨r, run_pureV hr' w⟩
    · exact same (s := Instr.sliceAt t (a.eval x) (lo.map a.eval) (hi.map a.eval) (mx.map a.eval)) rfl he fun r hr' => aSliceAt_sound hr (hop _ _ hlo) (hop _ _ hhi) (hop _ _ hmx) hr'
  case fieldAddr t x f =>
    split at he
    case h_2 => cases he
    rename_i u hx
    exact same (s := Instr.fieldAt t (a.eval x) f) rfl he fun r hr => aFieldAddr_sound (ho _ _ hx) hr
  case field t x f =>
    split at he
    case h_2 => cases he
    rename_i u hx
    exact same (s := Instr.field t (a.eval x) f) rfl he fun r hr => aField_sound (ho _ _ hx) hr
  case indexAddr t x i =>
    split at he
    case h_2 => cases he
    rename_i u v hx hy
    exact same (s := Instr.indexAt t (a.eval x) (a.eval i)) rfl he fun r hr => aIndexAddr_sound (ho _ _ hx) (ho _ _ hy) hr
  case index t x i =>
    split at he
    case h_2 => cases he
    rename_i u v hx hy
    have hr := ho _ _ hx
    have hr2 := ho _ _ hy
    split at he
    · cases hat : atom 0 v with
      | false => simp [hat] at he
      | true =>
      simp only [hat, cond_true] at he
      refine same (s := Instr.index t (a.eval x) (a.eval i)) rfl he fun r hr' => ?_
      rw [← atom_eq 0 hat hr2]
      generalize a.eval x = q at hr
      cases hr
      exact ⟨r, run_pureV hr' w⟩
    · exact same (s := Instr.index t (a.eval x) (a.eval i)) rfl he fun r hr' => aIndex_sound hr hr2 hr'
  case lookup t x i ok =>
    split at he
    case h_2 => cases he
    rename_i u v hx hy
    cases hat : atom 0 v with
    | false => simp [hat] at he
    | true =>
    simp only [hat, cond_true] at he
    exact same (s := Instr.lookup t (a.eval x) (a.eval i) ok) rfl he fun r hr => aLookup_sound hw hv (ho _ _ hx) (ho _ _ hy) hr
  case mapUpdate t m k x =>
    split at he
    case h_2 => cases he
    rename_i u v z hm hk hx
    unfold keepV at he
    split at he
    case h_2 => cases he
    rename_i h1 hst
    simp only [Option.some.injEq, Prod.mk.injEq] at he
    obtain ⟨rfl, rfl, rfl⟩ := he
    obtain ⟨w', T', q1, q2⟩ := aUpdate_sound (P := P) hw hv (ho _ _ hm) (ho _ _ hk) (ho _ _ hx) hst
    exact does_unit (s := Instr.mapUpdate t (a.eval m) (a.eval k) (a.eval x)) rfl q1 q2
  case insert t m k x =>
    split at he
    case h_2 => cases he
    rename_i u v z hm hk hx
    unfold keepV at he
    split at he
    case h_2 => cases he
    rename_i h1 hst
    simp only [Option.some.injEq, Prod.mk.injEq] at he
    obtain ⟨rfl, rfl, rfl⟩ := he
    obtain ⟨w', T', q1, q2⟩ := aUpdate_sound (P := P) hw hv (ho _ _ hm) (ho _ _ hk) (ho _ _ hx) hst
    exact does_unit (s := Instr.mapUpdate t (a.eval m) (a.eval k) (a.eval x)) rfl q1 q2
  case extract x i =>
    split at he
    case h_2 => cases he
    rename_i vs hx
    have hr := ho _ _ hx
    refine same (s := Instr.extract (a.eval x) i) rfl he fun r hr' => ?_
    generalize a.eval x = q at hr
    cases hr with
    | tuple _ vs' h1 h2 =>
      obtain ⟨r', q1, q2⟩ := (VRs.of_array h1 h2).2 i r (by first | exact hr' | (rw [Array.getElem?_toList]; exact hr'))
      rw [Array.getElem?_toList] at q1
      exact ⟨r', by simp [Instr.extract, q1], q2⟩
  case call k =>
    unfold aCall at he
    split at he
    · cases he
    rename_i args hargs
    have h1 := opvs_sound ho _ _ hargs
    have harr : k.args.map a.eval = (k.args.toList.map a.eval).toArray := by apply Array.ext'; simp
    split at he
    · rename_i b hcal
      obtain ⟨s, q1, q2⟩ := aBuiltin_sound (ty := type) (cs := k.args.map fun | .const _ => true | _ => false) hw hv hf h1 he
      refine does_gives (s := s) ?_ q2
      rw [← q1]
      simp only [execOp, resolve, hcal, harr]
      rfl
    · cases he
    · rename_i f hcal
      split at he
      case h_2 => cases he
      rename_i fid first captured hfv
      cases hen : enters P fid with
      | false => simp [hen] at he
      | true =>
      simp only [hen, cond_true] at he
      have hr := ho _ _ hfv
      intro K Q hK
      unfold Oper.wp
      have hrun : ∃ first' captured', VRs μ (first.toList ++ args ++ captured.toList) (first' ++ k.args.toList.map a.eval ++ captured') ∧
          (execOp a.eval ⟨dst, .call k, type, pos, after, guard⟩).run P w = .ok (.enter fid (first' ++ k.args.toList.map a.eval ++ captured').toArray) w := by
        simp only [execOp, resolve, hcal, harr]
        generalize a.eval f = q at hr
        cases hr with
        | func _ _ _ xs' ys' s1 s2 k1 k2 =>
          refine ⟨xs'.toList, ys'.toList, ((VRs.of_array s1 k1).append h1).append (VRs.of_array s2 k2), ?_⟩
          simp only [Deferred.ofValue, Sem.run_bind, Sem.run_pure, Result.andThen_ok, invoke, enters_some hen]
          congr 2
          apply Array.ext'
          simp
      obtain ⟨first', captured', q1, q2⟩ := hrun
      rw [q2]
      show Calls P fid _ w _
      refine (hc _ _ _ _ _ _ _ _ he w₀ N μ T w _ hw hv hf q1).mono ?_
      rintro e w' ⟨r', μ', T', rfl, hp, hvr⟩
      exact hK μ' T' w' r' hp hvr

end
end Go.Proofs.YtpbnpbmiijgeiaaGreatDoor.Ev
