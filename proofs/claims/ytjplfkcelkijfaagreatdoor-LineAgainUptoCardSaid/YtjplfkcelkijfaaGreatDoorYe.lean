/- A reply's line reads as that reply: the plain law. Condition: numbers of 64 bits, 32 bytes of digest, names that are tags. -/
import Derived.Test.YtjplfkcelkijfaaGreatDoorYd
namespace Go.Proofs.YtjplfkcelkijfaaGreatDoor
open Go.RowKit

/-- the first parts of a reply -/
def upTo (r : RepV) (k : Nat) : RepV := ⟨0, if 0 < k then r.i else 0, if 1 < k then r.k else 0, if 2 < k then r.n else 0, if 3 < k then r.d else zeroD, if 4 < k then r.b else [], if 5 < k then r.l else []⟩
theorem upTo_all {r : RepV} (he : r.e = 0) : upTo r 6 = r := by
  obtain ⟨e, i, k, n, d, b, l⟩ := r
  simp only at he
  subst he; rfl
/-- what follows the k-th part on is words that are read -/
def TailIs (r : RepV) (k : Nat) (tail : List UInt8) : Prop := ∃ ws : List (List UInt8), (∀ w ∈ ws, ∀ c ∈ w, c ≠ 32) ∧ tail = ws.flatMap (fun w => 32 :: w) ∧ ∀ n, n ≤ k → saysV (upTo r k) n ws = (upTo r 6, 0)
/-- a part: not told and nothing, or told and read -/
def StepIs (r : RepV) (k : Nat) : Prop := (pieceL r k = [] ∧ upTo r k = upTo r (k + 1)) ∨ ∃ t, pieceL r k = 32 :: (keyL k ++ 61 :: t) ∧ (∀ c ∈ t, c ≠ 32) ∧ sayV (upTo r k) k t = (upTo r (k + 1), 0)
theorem tail_step {r : RepV} {k : Nat} {tail : List UInt8} (hk : k < 6) (hs : StepIs r k) (ht : TailIs r (k + 1) tail) : TailIs r k (pieceL r k ++ tail) := by
  obtain ⟨ws, h1, h2, h3⟩ := ht
  rcases hs with ⟨e1, e2⟩ | ⟨t, e1, e2, e3⟩
  · exact ⟨ws, h1, by rw [e1, List.nil_append]; exact h2, fun n hn => by rw [e2]; exact h3 n (by omega)⟩
  · refine ⟨(keyL k ++ 61 :: t) :: ws, fun w hw => ?_, by rw [e1, List.flatMap_cons, h2], fun n hn => ?_⟩
    · rcases List.mem_cons.1 hw with rfl | hw
      · intro c hc
        rcases List.mem_append.1 hc with hc | hc
        · exact (keys_plain _ (keyL_mem k hk) c hc).2
        · rcases List.mem_cons.1 hc with rfl | hc
          · decide
          · exact e2 c hc
      · exact h1 w hw
    · rw [saysV_ok (cutE_key fun c hc => (keys_plain _ (keyL_mem k hk) c hc).1) hk hn e3]
      exact h3 _ (Nat.le_refl _)
theorem hexL_ne {l : List UInt8} (h : l ≠ []) : hexL l ≠ [] := by
  intro e
  have := hexL_length l
  rw [e] at this
  exact h (List.length_eq_zero_iff.1 (by simp at this; omega))
theorem tag_comma {s : List UInt8} (h : tagOk s = true) : ∀ x ∈ s, x ≠ 44 := fun x hx e => by
  cases s with
  | nil => cases hx
  | cons c r =>
    unfold tagOk at h
    simp only [Bool.and_eq_true] at h
    have := List.all_eq_true.1 h.1.2 x hx
    subst e
    exact absurd this (by decide)
theorem joinC_all : ∀ {l : List (List UInt8)}, (∀ a ∈ l, ∀ x ∈ a, x ≠ 32) → ∀ x ∈ joinC 44 l, x ≠ 32
  | [], _, x, hx => by cases hx
  | [w], h, x, hx => h w (List.mem_singleton.2 rfl) x hx
  | w :: v :: r, h, x, hx => by
    have e : joinC 44 (w :: v :: r) = w ++ 44 :: joinC 44 (v :: r) := rfl
    rw [e] at hx
    rcases List.mem_append.1 hx with hx | hx
    · exact h w (List.mem_cons_self ..) x hx
    · rcases List.mem_cons.1 hx with rfl | hx
      · decide
      · exact joinC_all (fun a ha => h a (List.mem_cons_of_mem _ ha)) x hx
theorem step_is {r : RepV} (hf : r.fits) (ht : ∀ x ∈ r.l, tagOk x = true) (k : Nat) (hk : k < 6) : StepIs r k := by
  obtain ⟨_, hi, hkk, hn, hd⟩ := hf
  have hkc : k = 0 ∨ k = 1 ∨ k = 2 ∨ k = 3 ∨ k = 4 ∨ k = 5 := by omega
  rcases hkc with rfl | rfl | rfl | rfl | rfl | rfl
  · by_cases h : r.i = 0
    · exact .inl ⟨by show tellL (r.i != 0) _ _ = _; rw [h]; rfl, by unfold upTo; simp [h]⟩
    · refine .inr ⟨Lib.itoa r.i, by show tellL (r.i != 0) _ _ = _; rw [bne_iff_ne.2 h]; rfl, itoa_plain _, ?_⟩
      show ({ upTo r 0 with i := (countV (Lib.itoa r.i)).1 }, (countV (Lib.itoa r.i)).2) = _
      rw [count_itoa hi h]; rfl
  · by_cases h : r.k = 0
    · exact .inl ⟨by show tellL (r.k != 0) _ _ = _; rw [h]; rfl, by unfold upTo; simp [h]⟩
    · refine .inr ⟨Lib.itoa r.k, by show tellL (r.k != 0) _ _ = _; rw [bne_iff_ne.2 h]; rfl, itoa_plain _, ?_⟩
      show ({ upTo r 1 with k := (countV (Lib.itoa r.k)).1 }, (countV (Lib.itoa r.k)).2) = _
      rw [count_itoa hkk h]; rfl
  · by_cases h : r.n = 0
    · exact .inl ⟨by show tellL (r.n != 0) _ _ = _; rw [h]; rfl, by unfold upTo; simp [h]⟩
    · refine .inr ⟨Lib.itoa r.n, by show tellL (r.n != 0) _ _ = _; rw [bne_iff_ne.2 h]; rfl, itoa_plain _, ?_⟩
      show ({ upTo r 2 with n := (countV (Lib.itoa r.n)).1 }, (countV (Lib.itoa r.n)).2) = _
      rw [count_itoa hn h]; rfl
  · by_cases h : r.d = zeroD
    · exact .inl ⟨by show tellL (!(r.d == zeroD)) _ _ = _; rw [h]; rfl, by unfold upTo; simp [h]⟩
    · refine .inr ⟨digT r.d, by show tellL (!(r.d == zeroD)) _ _ = _; rw [show (r.d == zeroD) = false from beq_eq_false_iff_ne.2 h]; rfl, fun c hc e => by have := digT_ge hc; rw [e] at this; simp at this, ?_⟩
      show (if digOk (digT r.d) = true ∧ digD (digT r.d) ≠ zeroD then ({ upTo r 3 with d := digD (digT r.d) }, (0 : Int)) else (upTo r 3, 3)) = _
      rw [digD_digT hd, if_pos ⟨digOk_digT hd, h⟩]; rfl
  · by_cases h : r.b = []
    · exact .inl ⟨by show tellL (someB r.b.length) _ _ = _; rw [h]; rfl, by unfold upTo; simp [h]⟩
    · refine .inr ⟨120 :: hexL r.b, ?_, fun c hc => ?_, ?_⟩
      · show tellL (someB r.b.length) _ _ = _
        have : someB r.b.length = true := by unfold someB; exact decide_eq_true (by have := List.length_pos_iff.2 h; omega)
        rw [this]; rfl
      · rcases List.mem_cons.1 hc with rfl | hc
        · decide
        · exact hexL_plain _ c hc
      · show (if (120 :: hexL r.b).head? = some 120 ∧ hexOk (120 :: hexL r.b).tail = true ∧ (120 :: hexL r.b).tail ≠ [] then ({ upTo r 4 with b := hexP (120 :: hexL r.b).tail }, (0 : Int)) else (upTo r 4, 3)) = _
        rw [if_pos ⟨rfl, hexOk_hexL _, hexL_ne h⟩]
        show ({ upTo r 4 with b := hexP (hexL r.b) }, (0 : Int)) = _
        rw [hexP_hexL]; rfl
  · by_cases h : r.l = []
    · exact .inl ⟨by show tellL (someB r.l.length) _ _ = _; rw [h]; rfl, by unfold upTo; simp [h]⟩
    · refine .inr ⟨joinC 44 r.l, ?_, joinC_all (fun x hx => tag_plain (ht x hx)), ?_⟩
      · show tellL (someB r.l.length) _ _ = _
        have : someB r.l.length = true := by unfold someB; exact decide_eq_true (by have := List.length_pos_iff.2 h; omega)
        rw [this]; rfl
      · show (if (splitC 44 (joinC 44 r.l)).all tagOk = true then ({ upTo r 5 with l := splitC 44 (joinC 44 r.l) }, (0 : Int)) else (upTo r 5, 3)) = _
        rw [split_join h fun x hx => tag_comma (ht x hx), if_pos (List.all_eq_true.2 ht)]; rfl
theorem answer_reply {r : RepV} (hf : r.fits) (he : r.e = 0) (ht : ∀ x ∈ r.l, tagOk x = true) : answerV (replyL r) = (r, 0) := by
  have h6 : TailIs r 6 [] := ⟨[], fun w hw => by simp at hw, rfl, fun n _ => rfl⟩
  have h5 := tail_step (by omega) (step_is hf ht 5 (by omega)) h6
  have h4 := tail_step (by omega) (step_is hf ht 4 (by omega)) h5
  have h3 := tail_step (by omega) (step_is hf ht 3 (by omega)) h4
  have h2 := tail_step (by omega) (step_is hf ht 2 (by omega)) h3
  have h1 := tail_step (by omega) (step_is hf ht 1 (by omega)) h2
  obtain ⟨ws, p1, p2, p3⟩ := tail_step (by omega) (step_is hf ht 0 (by omega)) h1
  have hl : replyL r = okW ++ ws.flatMap (fun w => 32 :: w) := by
    rw [repTo_line _ he, ← p2]
    show (((((((okW ++ pieceL r 0) ++ pieceL r 1) ++ pieceL r 2) ++ pieceL r 3) ++ pieceL r 4) ++ pieceL r 5)) = _
    simp
  unfold answerV
  rw [hl, line_flat, split_join (by simp) (fun a ha => ?_), answersV_cons, if_neg (by decide), if_pos rfl]
  · have := p3 0 (Nat.le_refl _)
    rw [upTo_all he] at this
    exact this
  · rcases List.mem_cons.1 ha with rfl | ha
    · decide
    · exact p1 a ha
theorem answer_err {r : RepV} (hf : r.fits) (he : r.e ≠ 0) : answerV (replyL r) = (errRep r.e, 0) := by
  have hl : replyL r = joinC 32 [errW, Lib.itoa r.e] := by
    unfold replyL
    rw [if_pos he]
    show errW ++ [32] ++ _ = errW ++ 32 :: Lib.itoa r.e
    simp
  unfold answerV
  rw [hl, split_join (by simp) (fun a ha => ?_), answersV_cons, if_pos rfl]
  · show (errRep (countV (Lib.itoa r.e)).1, (countV (Lib.itoa r.e)).2) = _
    rw [count_itoa hf.1 he]
  · rcases List.mem_cons.1 ha with rfl | ha
    · decide
    · rw [List.mem_singleton.1 ha]; exact itoa_plain _
end Go.Proofs.YtjplfkcelkijfaaGreatDoor
/- The law LineAgain returns true. Condition: data of at most 1048576 bytes, names of at most 4194304 bytes in all; what lies in variables. -/
namespace Go.Proofs.YtjplfkcelkijfaaGreatDoor
open Go.RowKit

theorem mem_join_le {x : List UInt8} : ∀ {l : List (List UInt8)}, x ∈ l → x.length ≤ (joinC 44 l).length
  | [], h => by cases h
  | [w], h => by rw [List.mem_singleton.1 h]; exact Nat.le_refl _
  | w :: v :: r, h => by
    have e : joinC 44 (w :: v :: r) = w ++ 44 :: joinC 44 (v :: r) := rfl
    rw [e, List.length_append, List.length_cons]
    rcases List.mem_cons.1 h with rfl | h
    · omega
    · have := mem_join_le h; omega
theorem reply_size {r : RepV} (hf : r.fits) (hb : r.b.length ≤ 1048576) (hj : (joinC 44 r.l).length ≤ 4194304) : (replyL r).length ≤ 8388608 := by
  by_cases he : r.e = 0
  · rw [repTo_line _ he]
    have := (repTo_len hf hb hj).2.2.2.2.2
    omega
  · unfold replyL
    rw [if_pos he]
    have := itoa_len r.e hf.1.1 hf.1.2
    rw [List.length_append]
    show 6 + _ ≤ _
    omega
set_option maxRecDepth 100000 in
theorem wpList_build_errG {ops : Array Oper} {rest : List Oper} {a : Act} {w : World} {Q : Exit → Act → World → Prop} {d : Option Tmp} {x : Tmp} {ty : TypeId} {pos : String} {after : Array Edge} {gd : Option (Nat × Bool)}
    (n : Int) (hx : a.tmps.getD x undef = .int .i64 n)
    (hw : Region.wanted { dst := d, op := .build 37 #[(0, .tmp x)], type := ty, pos := pos, after := after, guard := gd } (yielded ops a.tmps) = true)
    (h : wpList Tryz.prog ops Q rest (a.put d (.agg (repV (errRep n) (.slice none 0 0) (.slice none 0 0)).toArray)) w) :
    wpList Tryz.prog ops Q ({ dst := d, op := .build 37 #[(0, .tmp x)], type := ty, pos := pos, after := after, guard := gd } :: rest) a w := by
  refine wpList_valG hw (.agg (repV (errRep n) (.slice none 0 0) (.slice none 0 0)).toArray) ?_ h
  have hx' : a.eval (.tmp x) = .int .i64 n := hx
  have hc : Tryz.prog.built 37 ((#[(0, Operand.tmp x)] : Array (Nat × Operand)).map fun i => (i.1, a.eval i.2)).toList = some (repV (errRep n) (.slice none 0 0) (.slice none 0 0)).toArray := by
    rw [show ((#[(0, Operand.tmp x)] : Array (Nat × Operand)).map fun i => (i.1, a.eval i.2)).toList = [(0, .int .i64 n)] by simp [hx']]
    exact built_err n
  simp only [execOp]
  simp only [Sem.run_bind, run_build w 37 _ _ hc, Result.andThen_ok]
  rfl
set_option maxHeartbeats 4000000 in
set_option maxRecDepth 100000 in
theorem law_again (r : RepV) (A : Option Addr) (c1 : Nat) (A2 : Option Addr) (c2 : Nat) (w : World) (h : RepOk w r A c1 A2 c2) (hE : LEnv w) :
    Calls Tryz.prog 6 #[.agg (repS r A c1 A2 c2).toArray] w fun e w' => e = .returned (.bool true) ∧ Below w.heap.size w w' := by
  have hd := h.fits.2.2.2.2
  have hb0 : Below w.heap.size w (w.alloc (.cells (repS r A c1 A2 c2).toArray 37)) := (Below.refl _ _).alloc (Nat.le_refl _) _
  have h0 := h.below hb0
  have hE0 := hE.below hb0
  have hrg := rangeAt_new w (repS r A c1 A2 c2) 37
  have hsz := reply_size h.fits h.bl h.jl
  have HANS := Lib.hid (fun W hEW => answer_calls ⟨(replyL r).toArray⟩ W (by show (replyL r).toArray.size ≤ _; simpa using hsz) hEW)
  simp only [show (⟨(replyL r).toArray⟩ : ByteArray).data.toList = replyL r by simp] at HANS
  clear hsz hE h
  by_cases he : r.e ≠ 0
  · have q1 : (r.e != 0) = true := bne_iff_ne.2 he
    have hae := answer_err h0.fits he
    simp only [hae] at HANS
    clear hae
    go_enter Tryz.func6, Tryz.ntmps6
    go_upto_region 1 with (fail)
    change Code.wp _ _ _ _ (w.alloc (.cells (repS r A c1 A2 c2).toArray 37))
    generalize w.alloc (.cells (repS r A c1 A2 c2).toArray 37) = w0 at *
    have HR0 := Lib.hid (repAt_of hrg hd)
    have HRG := Lib.hid hrg
    have H0 := Lib.hid h0
    have HE := Lib.hid hE0
    have HB0 := Lib.hid hb0
    clear h0 hE0 hb0 hrg
    have p1 := HR0.out.e
    go_upto_region 3 with (first | ((with_reducible apply wpList_load_repG w.heap.size (repS r A c1 A2 c2)); rfl; exact HRG.out; exact repV_length _ _ _ hd; rfl) | (go_at_call 11; refine (reply_calls r A c1 A2 c2 w0 H0.out HE.out.env.1).mono ?_; rintro e w1 ⟨rfl, hb1⟩; have HB1 := Lib.hid hb1; clear hb1) | (go_at_call 13; refine (HANS.out _ (HE.out.below HB1.out)).mono ?_; rintro e w2 ⟨_, rfl, ⟨B, d1, B2, d2, rfl, hc, hc2, hc3⟩, hb2⟩; have HC := Lib.hid hc; have HN := Lib.hid hc2; have HB2 := Lib.hid (HB1.out.trans (hb2.mono HB1.out.size)); clear hb2 hc hc2 hc3) | ((with_reducible apply wpList_store_rep w2.heap.size (c0 := zeroRS)); (case hy => rfl); (case hx => rfl); (case hf => exact repV_length _ _ _ zeroD_length); (case hf0 => exact zeroRS_length); (case h1 => exact repV_one _ _ _ rfl rfl); (case hg => exact World.alloc_heap_new _ _)))
    change Code.wp _ _ _ _ ((w2.alloc (.cells zeroRS.toArray 37)).setRow w2.heap.size (repS (errRep r.e) B d1 B2 d2).toArray)
    obtain ⟨hrg3, hb3⟩ := rep_stored w2 (errRep r.e) (.slice B (errRep r.e).b.length d1) (.slice B2 (errRep r.e).l.length d2)
    have HC3 := Lib.hid (HC.out.below hb3)
    have HN3 := Lib.hid (HN.out.below hb3)
    have HB3 := Lib.hid (HB2.out.trans (hb3.mono HB2.out.size))
    generalize (w2.alloc (.cells zeroRS.toArray 37)).setRow w2.heap.size (repS (errRep r.e) B d1 B2 d2).toArray = w3 at *
    generalize w2.heap.size = g3 at *
    have HRG3 := Lib.hid hrg3
    have p3 := (HR0.out.below HB3.out).e
    have HSM : Hid (Calls Tryz.prog 15 #[.agg (repS (errRep r.e) B d1 B2 d2).toArray, .agg (repV (errRep r.e) (.slice none 0 0) (.slice none 0 0)).toArray] w3 fun e w' => e = .returned (.bool true) ∧ Below w3.heap.size w3 w') := sameReply_calls (errRep r.e) B none B2 none d1 d2 0 0 w3 zeroD_length HC3.out (fun k v hk => by simp [errRep, Lib.byteCells] at hk) HN3.out ⟨none, 0, rfl, fun k x hk => by simp [errRep] at hk⟩ (Nat.zero_le _) (Nat.zero_le _)
    have HB03 := Lib.hid (HB0.out.trans (HB3.out.mono HB0.out.size))
    clear hrg3 hb3 HC HN HB1 HB2
    go_wp2_with (first | ((with_reducible apply wpList_load_repG g3 (repS (errRep r.e) B d1 B2 d2)); rfl; exact HRG3.out; exact repV_length _ _ _ zeroD_length; rfl) | ((with_reducible apply wpList_build_errG r.e); rfl; rfl) | (go_at_call 15; refine HSM.out.mono ?_; rintro e w5 ⟨rfl, hb5⟩; have HB5 := Lib.hid (HB3.out.trans (hb5.mono HB3.out.size)); clear hb5) | (go_at_call 10; refine (lives_calls _ (HE.out.below HB5.out)).mono ?_; rintro e w7 ⟨rfl, hb7⟩))
    go_ret
    exact ⟨rfl, HB0.out.trans ((HB5.out.trans (hb7.mono HB5.out.size)).mono HB0.out.size)⟩
  · have he0 : r.e = 0 := Classical.byContradiction he
    have q1 : (r.e != 0) = false := by rw [he0]; rfl
    go_enter Tryz.func6, Tryz.ntmps6
    go_upto_region 1 with (fail)
    change Code.wp _ _ _ _ (w.alloc (.cells (repS r A c1 A2 c2).toArray 37))
    generalize w.alloc (.cells (repS r A c1 A2 c2).toArray 37) = w0 at *
    have HR0 := Lib.hid (repAt_of hrg hd)
    have HRG := Lib.hid hrg
    have H0 := Lib.hid h0
    have HE := Lib.hid hE0
    have HB0 := Lib.hid hb0
    have HHE := Lib.hid he0
    have hll : (r.l.length : Int) ≤ 4194304 := by have := h0.ll; omega
    clear h0 hE0 hb0 hrg he
    have p1 := HR0.out.e
    have n0 := HR0.out.nam
    go_wp2_with fail
    go_loopw [5] (fun c wr => ∃ k : Nat, c = .int .i64 k ∧ (k : Int) ≤ r.l.length ∧ wr = w0 ∧ Hid (∀ j x, j < k → r.l[j]? = some x → tagOk x = true)) (fun c _ => r.l.length - (intOf c).toNat)
    case atStart => exact ⟨0, rfl, by omega, rfl, fun j x h => by omega⟩
    case round =>
      obtain ⟨k, rfl, hk, rfl, hto⟩ := hrel
      by_cases hlt : (k : Int) < r.l.length
      · obtain ⟨x, hx⟩ : ∃ x, r.l[k]? = some x := ⟨_, List.getElem?_eq_getElem (by omega)⟩
        obtain ⟨a1, _, ea, hca⟩ := H0.out.names
        obtain ⟨ga, oa, rfl, hca2⟩ := hca k x hx
        obtain rfl : A2 = some ⟨ga, oa, none⟩ := by injection ea
        have hxl : x.length ≤ 8388608 := by have := mem_join_le (List.mem_of_getElem? hx); have := H0.out.jl; omega
        have HX := Lib.hid hx
        have htg := fun W => refTag_calls ⟨x.toArray⟩ W (by show x.toArray.size ≤ _; simpa using hxl)
        simp only [show (⟨x.toArray⟩ : ByteArray).data.toList = x by simp] at htg
        clear hca ea hx hxl
        cases hok : tagOk x with
        | true =>
          rw [hok] at htg
          have HT := Lib.hid htg
          have HTO : Hid (∀ j x, j < k + 1 → r.l[j]? = some x → tagOk x = true) := fun j y hj hy => by
            by_cases e : j = k
            · subst e
              rw [HX.out] at hy
              injection hy with hy
              subst hy; exact hok
            · exact hto.out j y (by omega) hy
          clear htg hok hto
          go_wp2_with (go_at_call 16; refine (HT.out _).mono ?_; rintro e w2 ⟨rfl, rfl⟩)
          go_roundw
          case rel => exact ⟨k + 1, by go_num, by omega, by first | rfl | trivial, HTO⟩
          case measure => (simp [intOf] <;> omega)
        | false =>
          rw [hok] at htg
          have HT := Lib.hid htg
          clear htg hok hto
          go_wp2_with (first | (go_at_call 16; refine (HT.out _).mono ?_; rintro e w2 ⟨rfl, rfl⟩) | (go_at_call 10; refine (lives_calls _ HE.out).mono ?_; rintro e w7 ⟨rfl, hb7⟩))
          go_ret
          exact ⟨rfl, HB0.out.trans (hb7.mono HB0.out.size)⟩
      · have har := answer_reply H0.out.fits HHE.out (fun x hx => by
          obtain ⟨j, hj, e⟩ := List.getElem_of_mem hx
          exact hto.out j x (by omega) (by rw [List.getElem?_eq_getElem hj, e]))
        simp only [har] at HANS
        clear har hto
        obtain ⟨w0, rfl⟩ : ∃ x : World, x = wr := ⟨_, rfl⟩
        go_upto_region 10 with (first | ((with_reducible apply wpList_load_repG w.heap.size (repS r A c1 A2 c2)); rfl; exact HRG.out; exact repV_length _ _ _ hd; rfl) | (go_at_call 11; refine (reply_calls r A c1 A2 c2 w0 H0.out HE.out.env.1).mono ?_; rintro e w1 ⟨rfl, hb1⟩; have HB1 := Lib.hid hb1; clear hb1) | (go_at_call 13; refine (HANS.out _ (HE.out.below HB1.out)).mono ?_; rintro e w2 ⟨_, rfl, ⟨B, d1, B2, d2, rfl, hc, hc2, hc3⟩, hb2⟩; have HC := Lib.hid hc; have HN := Lib.hid hc2; have HB2 := Lib.hid (HB1.out.trans (hb2.mono HB1.out.size)); clear hb2 hc hc2 hc3) | ((with_reducible apply wpList_store_rep w2.heap.size (c0 := zeroRS)); (case hy => rfl); (case hx => rfl); (case hf => exact repV_length _ _ _ hd); (case hf0 => exact zeroRS_length); (case h1 => exact repV_one _ _ _ rfl rfl); (case hg => exact World.alloc_heap_new _ _)))
        change Code.wp _ _ _ _ ((w2.alloc (.cells zeroRS.toArray 37)).setRow w2.heap.size (repS r B d1 B2 d2).toArray)
        obtain ⟨hrg3, hb3⟩ := rep_stored w2 r (.slice B r.b.length d1) (.slice B2 r.l.length d2)
        have HC3 := Lib.hid (HC.out.below hb3)
        have HN3 := Lib.hid (HN.out.below hb3)
        have HB3 := Lib.hid (HB2.out.trans (hb3.mono HB2.out.size))
        generalize (w2.alloc (.cells zeroRS.toArray 37)).setRow w2.heap.size (repS r B d1 B2 d2).toArray = w3 at *
        generalize w2.heap.size = g3 at *
        have HRG3 := Lib.hid hrg3
        have HRG0 := Lib.hid (rangeAt_below HRG.out HB3.out)
        have HSM := Lib.hid (sameReply_calls r B A B2 A2 d1 d2 c1 c2 w3 hd HC3.out (H0.out.data.below HB3.out) HN3.out (H0.out.names.below HB3.out) (by have := H0.out.bl; omega) (by have := H0.out.ll; omega))
        clear hrg3 hb3 HC HN HB1 HB2
        go_wp2_with (first | ((with_reducible apply wpList_load_repG g3 (repS r B d1 B2 d2)); rfl; exact HRG3.out; exact repV_length _ _ _ hd; rfl) | ((with_reducible apply wpList_load_repG w.heap.size (repS r A c1 A2 c2)); rfl; exact HRG0.out; exact repV_length _ _ _ hd; rfl) | (go_at_call 15; refine HSM.out.mono ?_; rintro e w5 ⟨rfl, hb5⟩; have HB5 := Lib.hid (HB3.out.trans (hb5.mono HB3.out.size)); clear hb5) | (go_at_call 10; refine (lives_calls _ (HE.out.below HB5.out)).mono ?_; rintro e w7 ⟨rfl, hb7⟩))
        go_ret
        exact ⟨rfl, HB0.out.trans ((HB5.out.trans (hb7.mono HB5.out.size)).mono HB0.out.size)⟩
end Go.Proofs.YtjplfkcelkijfaaGreatDoor
