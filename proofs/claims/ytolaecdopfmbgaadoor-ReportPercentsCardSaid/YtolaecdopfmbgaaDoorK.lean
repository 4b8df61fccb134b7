/- The reference's Same of references: for every two rows. -/
import Derived.Test.YtolaecdopfmbgaaDoorJ
namespace Go.Proofs.YtolaecdopfmbgaaDoor
open Go.RowKit

theorem fields41 : (Tryd.prog.fieldsOf 41).toList.map (fun f => (f.name != "_", f.type, f.offset)) = [(true, 4, 0), (true, 39, 1), (true, 3, 33)] := by kernel_rfl
theorem under41 : Tryd.prog.underlying 41 = some (.struct (Tryd.prog.fieldsOf 41)) := by kernel_rfl
theorem stood41 : Tryd.prog.stoodInHeld 41 = false := by kernel_rfl
theorem agg39 : ∀ w, (isAgg 39).run Tryd.prog w = .ok true w := fun w => by unfold isAgg; rw [Sem.run_bind, run_underlying Tryd.underlying39]; rfl
theorem plain4 : Tryd.prog.plainKey 4 = true := by kernel_rfl
theorem plain3 : Tryd.prog.plainKey 3 = true := by kernel_rfl
theorem extract_dig (r : Rf) (hf : r.fits) : (refV r).toArray.extract 1 (1 + 32) = (digV r.d).toArray := by
  apply Array.ext'
  rw [Array.toList_extract]
  show ((refV r).drop 1).take (1 + 32 - 1) = _
  have : (refV r).drop 1 = digV r.d ++ [.int .i64 r.n] := rfl
  rw [this, List.take_append_of_le_length (by rw [digV_length, hf.1]; omega), List.take_of_length_le (by rw [digV_length, hf.1]; omega)]
theorem part_dig (w : World) (r : Rf) (hf : r.fits) : (part 39 (refV r).toArray 1).run Tryd.prog w = .ok (.agg (digV r.d).toArray) w := by
  obtain ⟨i, hi, hsz⟩ := Option.map_eq_some_iff.1 size39
  have hc : Tryd.prog.cellsOf 39 = 32 := by kernel_rfl
  unfold part
  rw [Sem.run_bind, agg39, Result.andThen_ok, if_pos rfl, Sem.run_bind, run_sizeOf w hi, Result.andThen_ok, hc, extract_dig r hf]
  rfl

theorem eqFields_ref (w : World) (a b : Rf) (ha : a.fits) (hb : b.fits) (l : List Field) (hf : l.map (fun f => (f.name != "_", f.type, f.offset)) = [(true, 4, 0), (true, 39, 1), (true, 3, 33)]) :
    (Op.eqFields 9999 (refV a).toArray (refV b).toArray l).run Tryd.prog w = .ok (a.m == b.m && (a.d == b.d && a.n == b.n)) w := by
  obtain ⟨f1, l1, rfl, h1, hf⟩ := List.map_eq_cons_iff.1 hf
  obtain ⟨f2, l2, rfl, h2, hf⟩ := List.map_eq_cons_iff.1 hf
  obtain ⟨f3, l3, rfl, h3, hf⟩ := List.map_eq_cons_iff.1 hf
  obtain rfl := List.map_eq_nil_iff.1 hf
  simp only [Prod.mk.injEq, bne_iff_ne] at h1 h2 h3
  obtain ⟨n1, t1, o1⟩ := h1
  obtain ⟨n2, t2, o2⟩ := h2
  obtain ⟨n3, t3, o3⟩ := h3
  have p1 := fun r : Rf => run_part_plain (P := Tryd.prog) w plain4 (xs := (refV r).toArray) (off := 0) (v := .bool r.m) (by rw [List.getElem?_toArray]; exact refV_m r)
  have p3 := run_part_plain (P := Tryd.prog) w plain3 (xs := (refV a).toArray) (off := 33) (v := .int .i64 a.n) (by rw [List.getElem?_toArray]; exact refV_n ha)
  have p3b := run_part_plain (P := Tryd.prog) w plain3 (xs := (refV b).toArray) (off := 33) (v := .int .i64 b.n) (by rw [List.getElem?_toArray]; exact refV_n hb)
  have e1 := run_equalIn_bool' (P := Tryd.prog) w 9998 4 a.m b.m Tryd.underlying4
  have e2 := run_equalIn_dig w 9997 a.d b.d ha.1 hb.1
  have e3 := run_equalIn_int (P := Tryd.prog) w 9998 3 .i64 .i64 a.n b.n Tryd.underlying3
  rw [Op.eqFields, if_pos n1, t1, o1, Sem.run_bind, p1, Result.andThen_ok, Sem.run_bind, p1, Result.andThen_ok, Sem.run_bind, e1, Result.andThen_ok]
  cases hm : a.m == b.m
  · rfl
  · rw [if_neg (by simp), Op.eqFields, if_pos n2, t2, o2, Sem.run_bind, part_dig w a ha, Result.andThen_ok, Sem.run_bind, part_dig w b hb, Result.andThen_ok, Sem.run_bind, e2, Result.andThen_ok]
    cases hd : a.d == b.d
    · rfl
    · rw [if_neg (by simp), Op.eqFields, if_pos n3, t3, o3, Sem.run_bind, p3, Result.andThen_ok, Sem.run_bind, p3b, Result.andThen_ok, Sem.run_bind, e3, Result.andThen_ok]
      cases hn : a.n == b.n
      · rfl
      · rw [if_neg (by simp), Op.eqFields]; rfl
theorem equalIn_ref (w : World) (a b : Rf) (ha : a.fits) (hb : b.fits) :
    (Op.equalIn 10000 41 (.agg (refV a).toArray) (.agg (refV b).toArray)).run Tryd.prog w = .ok (a.m == b.m && (a.d == b.d && a.n == b.n)) w := by
  rw [run_equalIn_struct w 9999 41 _ _ under41 stood41]
  exact eqFields_ref w a b ha hb _ fields41
theorem rf_eq {a b : Rf} : (a.m == b.m && (a.d == b.d && a.n == b.n)) = true ↔ a = b := by
  rw [Bool.and_eq_true, Bool.and_eq_true, beq_iff_eq, beq_iff_eq, beq_iff_eq]
  constructor
  · rintro ⟨h1, h2, h3⟩; exact Rf.ext' h1 h2 h3
  · rintro rfl; exact ⟨rfl, rfl, rfl⟩

instance : DecidableEq Rf := fun _ _ => decidable_of_iff _ rf_eq
theorem run_neq_ref (w : World) (a b : Rf) (ha : a.fits) (hb : b.fits) :
    (binOp .neq 41 (.agg (refV a).toArray) (.agg (refV b).toArray)).run Tryd.prog w = .ok (.bool (!(a.m == b.m && (a.d == b.d && a.n == b.n)))) w := by
  rw [run_neq_struct, equalIn_ref w a b ha hb]; rfl
theorem wpQuiet_neq_ref {ops : Array Oper} {C : World → Prop} {Q : Act → Prop} {a : Act} {rest : List Oper} {d x y : Tmp} {t2 t3 : TypeId} {pos : String} {after : Array Edge}
    (p q : Rf) (hp : p.fits) (hq : q.fits) (hx : a.tmps.getD x undef = .agg (refV p).toArray) (hy : a.tmps.getD y undef = .agg (refV q).toArray)
    (h : wpQuiet Tryd.prog ops C Q rest (a.put (some d) (.bool (!(p.m == q.m && (p.d == q.d && p.n == q.n)))))) :
    wpQuiet Tryd.prog ops C Q ({ dst := some d, op := .binOp .neq 41 (.tmp x) (.tmp y) t3, type := t2, pos := pos, after := after, guard := none } :: rest) a := by
  refine wpQuiet_step fun K hK => ?_
  rw [if_pos (show Region.wanted { dst := some d, op := Op.binOp .neq 41 (.tmp x) (.tmp y) t3, type := t2, pos := pos, after := after, guard := none } (yielded ops a.tmps) = true from rfl)]
  refine ⟨_, fun w hw => ?_, hK _ h⟩
  have hx' : a.eval (.tmp x) = .agg (refV p).toArray := hx
  have hy' : a.eval (.tmp y) = .agg (refV q).toArray := hy
  unfold Oper.quietAt execOp
  simp only [hx', hy', Sem.run_bind, run_eqGuard_agg w _ _ _ _ _ _ eqGuard41, Result.andThen_ok, run_neq_ref w p q hp hq, Sem.run_pure]
  exact ⟨rfl, rfl⟩

set_option maxHeartbeats 2000000 in
set_option maxRecDepth 100000 in
theorem refSame_calls (A B : Option Addr) (c1 c2 : Nat) (xs ys : List Rf) (w : World) (hl1 : xs.length ≤ 140737488351232) (hl2 : ys.length ≤ 140737488351232)
    (hA : RefsIn w A xs) (hB : RefsIn w B ys) :
    Calls Tryd.prog 15 #[.slice A xs.length c1, .slice B ys.length c2] w fun e w' => e = .returned (.bool (decide (xs = ys))) ∧ ∃ n, w' = w.drewN n := by
  have g1 : (xs.length : Int) ≤ 140737488351232 := by omega
  have g2 : (ys.length : Int) ≤ 140737488351232 := by omega
  clear hl1 hl2
  by_cases hl : xs.length = ys.length
  · have hli : ((xs.length : Int) == (ys.length : Int)) = true := by simp [hl]
    have HLE := Lib.hid hl
    have hle : (xs.length : Int) = ys.length := by omega
    clear hl
    go_enter Tryd.func15, Tryd.ntmps15
    go_wp2
    go_loopw [5] (fun c wr => ∃ k n : Nat, (k : Int) ≤ xs.length ∧ c = .int .i64 k ∧ xs.take k = ys.take k ∧ wr = w.drewN n) (fun c _ => xs.length - (intOf c).toNat)
    case atStart => exact ⟨0, 0, by omega, rfl, rfl, rfl⟩
    case round =>
      obtain ⟨k, n, hk, rfl, hsame, rfl⟩ := hrel
      by_cases hlt : (k : Int) < xs.length
      · obtain ⟨x, hx⟩ : ∃ x, xs[k]? = some x := ⟨_, List.getElem?_eq_getElem (by omega)⟩
        obtain ⟨y, hy⟩ : ∃ y, ys[k]? = some y := ⟨_, List.getElem?_eq_getElem (by omega)⟩
        obtain ⟨fx, b1, o1, rfl, d1⟩ := hA k x hx
        obtain ⟨fy, b2, o2, rfl, d2⟩ := hB k y hy
        have hlt2 : (k : Int) < ys.length := by omega
        have HX := Lib.hid hx
        have HY := Lib.hid hy
        have HS := Lib.hid hsame
        have D1 := Lib.hid d1
        have D2 := Lib.hid d2
        have FX := Lib.hid fx
        have FY := Lib.hid fy
        have C1 := Lib.hid (show (Tryd.prog.info? 41).map (·.size) = some (refV x).length by rw [size41, refV_length fx])
        have C2 := Lib.hid (show (Tryd.prog.info? 41).map (·.size) = some (refV y).length by rw [size41, refV_length fy])
        clear hx hy hsame hA hB hle d1 d2
        go_wp2
        refine wp_region_quiet_lit (by kernel_rfl) (by kernel_rfl) ?_
        iterate 3 quiet_step (fail)
        refine wpQuiet_load_mid b1 _ _ _ rfl Tryd.underlying41 rfl C1.out (by rintro _ ⟨m, rfl⟩; exact D1.out) ?_
        iterate 3 quiet_step (fail)
        refine wpQuiet_load_mid b2 _ _ _ rfl Tryd.underlying41 rfl C2.out (by rintro _ ⟨m, rfl⟩; exact D2.out) ?_
        refine wpQuiet_neq_ref x y fx fy rfl rfl ?_
        refine wpQuiet_nil ?_
        rintro _ ⟨nq, rfl⟩
        clear fx fy
        generalize hq : (x.m == y.m && (x.d == y.d && x.n == y.n)) = q
        have HQ := Lib.hid hq
        clear hq
        cases q
        · go_wp2
          go_ret
          refine ⟨ret_bool ?_, _, rfl⟩
          have : x ≠ y := fun e => by have := rf_eq.2 e; rw [HQ.out] at this; cases this
          exact (decide_eq_false (takes_differ HX.out HY.out this)).symm
        · go_wp2
          go_round
          case rel => exact ⟨k + 1, _, by omega, by go_num, by have e := rf_eq.1 HQ.out; subst e; exact takes_next HX.out HY.out HS.out, rfl⟩
          case measure => simp [intOf]; omega
      · obtain rfl : k = xs.length := by omega
        have HS := Lib.hid hsame
        clear hsame hA hB hle
        go_wp2
        go_ret
        exact ⟨ret_bool (decide_eq_true (takes_all HLE.out HS.out)).symm, _, rfl⟩
  · have hli : ((xs.length : Int) == (ys.length : Int)) = false := by
      rw [beq_eq_false_iff_ne]; omega
    have HLE := Lib.hid hl
    clear hl
    go_enter Tryd.func15, Tryd.ntmps15
    go_wp2
    go_ret
    exact ⟨ret_bool (decide_eq_false (fun e => HLE.out (by rw [e]))).symm, 0, rfl⟩
end Go.Proofs.YtolaecdopfmbgaaDoor
