/- An evaluator of the program's code, eighteenth part: which names the evaluator leaves alone. No condition. -/
import Derived.Test.YtpbnpbmiijgeiaaGreatDoorEvQ
namespace Go.Proofs.YtpbnpbmiijgeiaaGreatDoor.Ev
open Go Go.RowKit

structure Kp (c : Ctx) (h : Mem) (n : Nat) (h' : Mem) (n' : Nat) : Prop where
  le : n ≤ n'
  lo : ∀ b, b < n → b < c.lo → h'.find b = h.find b
  hi : ∀ b, n' ≤ b → h'.find b = h.find b

section
variable {P : Program} {c : Ctx} {h h' : Mem} {n n' : Nat}

theorem Kp.refl : Kp c h n h n := ⟨Nat.le_refl _, fun _ _ _ => rfl, fun _ _ => rfl⟩
theorem Kp.trans {h1 h2 : Mem} {m k : Nat} (p : Kp c h n h1 m) (q : Kp c h1 m h2 k) : Kp c h n h2 k :=
  ⟨Nat.le_trans p.le q.le, fun b h1 h2 => by rw [q.lo b (by have := p.le; omega) h2, p.lo b h1 h2], fun b hb => by rw [q.hi b hb, p.hi b (by have := q.le; omega)]⟩
theorem Kp.put {b : Nat} {o : Option AObj} (hm : may c n b = true) : Kp c h n (hput h b o) n := by
  obtain ⟨h1, h2, _, h4⟩ := may_some hm
  exact ⟨Nat.le_refl _, fun j hj hl => by rw [find_hput h4, if_neg (by omega)], fun j hj => by rw [find_hput h4, if_neg (by omega)]⟩
theorem Kp.new {o : AObj} (ha : aNew h n o = some (h', n')) : Kp c h n h' n' := by
  obtain ⟨hl, rfl, rfl⟩ := aNew_some ha
  exact ⟨by omega, fun j hj _ => by rw [find_hput hl, if_neg (by omega)], fun j hj => by rw [find_hput hl, if_neg (by omega)]⟩

theorem new_map {α : Type} {o : AObj} {f : Mem × Nat → α × Mem × Nat} {r : α} (hfn : ∀ x, (f x).2 = x) (he : (aNew h n o).map f = some (r, h', n')) : Kp c h n h' n' := by
  obtain ⟨⟨h1, n1⟩, ha, hre⟩ := Option.map_eq_some_iff.1 he
  have := hfn (h1, n1)
  rw [hre] at this
  cases this
  exact Kp.new ha

theorem aWrite_keeps {b o : Nat} {xs : List Value} (he : aWrite c h n b o xs = some h') : Kp c h n h' n := by
  unfold aWrite at he
  split at he
  case h_2 => cases he
  rename_i cs link _
  cases hcond : (may c n b && (Nat.ble (o + xs.length) cs.length && xs.all oneC)) with
  | false => simp [hcond] at he
  | true =>
  simp only [hcond, cond_true] at he
  simp only [Bool.and_eq_true] at hcond
  cases link with
  | none => simp only [Option.some.injEq] at he; subst he; exact Kp.put hcond.1
  | some l =>
    simp only [] at he
    cases hc2 : (may c n l && !(Nat.beq l b)) with
    | false => simp [hc2] at he
    | true =>
    simp only [hc2, cond_true, Option.some.injEq] at he
    simp only [Bool.and_eq_true] at hc2
    subst he
    exact (Kp.put hc2.1).trans (Kp.put hcond.1)

theorem aStore_keeps {t : TypeId} {v x : Value} (he : aStore P c h n t v x = some h') : Kp c h n h' n := by
  unfold aStore at he
  split at he
  case h_2 => cases he
  rename_i s _
  cases hb : Nat.beq x.cells.size s with
  | false => simp [hb] at he
  | true => simp only [hb, cond_true] at he; exact aWrite_keeps he

theorem aGrow_keeps {e s need : Nat} {cs : List Value} {r : Value} (he : aGrow P h n e s need cs = some (r, h', n')) : Kp c h n h' n' := by
  unfold aGrow at he
  split at he
  case h_2 => cases he
  rename_i i z _ _
  cases hb : (Nat.ble (need * (i.bytes + 1)) BIG && (Nat.beq z.cells.size s && (Nat.ble 1 s && Nat.ble 1 i.bytes))) with
  | false => simp [hb] at he
  | true => simp only [hb, cond_true] at he; exact new_map (fun _ => rfl) he

theorem write_map {α : Type} {b o : Nat} {xs : List Value} {f : Mem → α × Mem × Nat} {r : α} (hfn : ∀ x, (f x).2 = (x, n)) (he : (aWrite c h n b o xs).map f = some (r, h', n')) : Kp c h n h' n' := by
  obtain ⟨h1, ha, hre⟩ := Option.map_eq_some_iff.1 he
  have := hfn h1
  rw [hre] at this
  cases this
  exact aWrite_keeps ha

theorem same_keeps {α : Type} {v r : α} (he : some (v, h, n) = some (r, h', n')) : Kp c h n h' n' := by
  simp only [Option.some.injEq, Prod.mk.injEq] at he
  obtain ⟨_, rfl, rfl⟩ := he
  exact Kp.refl

theorem keepN_keeps {α : Type} {o : Option α} {r : α} (he : keepN h n o = some (r, h', n')) : Kp c h n h' n' := by
  obtain ⟨_, rfl, rfl⟩ := keepN_some he
  exact Kp.refl

theorem aAppend_keeps {e s : Nat} {v x r : Value} (he : aAppend P c h n e s v x = some (r, h', n')) : Kp c h n h' n' := by
  unfold aAppend at he
  split at he
  · cases he
  rename_i m news _
  cases hm : Nat.beq m 0 with
  | true =>
    simp only [hm, cond_true] at he
    split at he
    · exact same_keeps he
    · cases he
  | false =>
  simp only [hm, cond_false] at he
  split at he
  · rename_i len cap
    cases hb : (Nat.beq len 0 && Nat.beq cap 0) with
    | false => simp [hb] at he
    | true => simp only [hb, cond_true] at he; exact aGrow_keeps he
  · rename_i b o len cap
    try dsimp only at he
    cases hle : Nat.ble (len + m) (cap % OPEN) with
    | true =>
      simp only [hle, cond_true] at he
      cases hus : (Nat.beq (cap / OPEN) 0 || Nat.beq (cap / OPEN) s) with
      | false => simp [hus] at he
      | true => simp only [hus, cond_true] at he; exact write_map (fun _ => rfl) he
    | false =>
      simp only [hle, cond_false] at he
      split at he
      · cases he
      rename_i old _
      cases hu0 : Nat.beq (cap / OPEN) 0 with
      | true => simp only [hu0, cond_true] at he; exact aGrow_keeps he
      | false =>
        simp only [hu0, cond_false] at he
        cases hus : Nat.beq (cap / OPEN) s with
        | false => simp [hus] at he
        | true =>
        simp only [hus, cond_true] at he
        split at he
        case h_2 => cases he
        rename_i cs link _
        cases hmay : may c n b with
        | false => simp [hmay] at he
        | true =>
        simp only [hmay, cond_true] at he
        split at he
        case h_2 => cases he
        rename_i i z _ _
        cases hb : (Nat.ble ((len + m) * (i.bytes + 1)) BIG && (Nat.beq z.cells.size s && (Nat.ble 1 i.bytes && (Nat.ble n LIM && news.all oneC)))) with
        | false => simp [hb] at he
        | true =>
        simp only [hb, cond_true] at he
        simp only [Bool.and_eq_true] at hb
        have hnl := ble.1 hb.2.2.2.1
        have last : ∀ (g : Mem) (o : Option AObj), Kp c g n (hput g n o) (n + 1) := fun g o =>
          ⟨by omega, fun j hj _ => by rw [find_hput hnl, if_neg (by omega)], fun j hj => by rw [find_hput hnl, if_neg (by omega)]⟩
        cases link with
        | none =>
          simp only [Option.some.injEq, Prod.mk.injEq] at he
          obtain ⟨_, rfl, rfl⟩ := he
          exact (Kp.put hmay).trans (last _ _)
        | some l =>
          simp only [] at he
          cases hc2 : (may c n l && !(Nat.beq l b)) with
          | false => simp [hc2] at he
          | true =>
          simp only [hc2, cond_true, Option.some.injEq, Prod.mk.injEq] at he
          simp only [Bool.and_eq_true] at hc2
          obtain ⟨_, rfl, rfl⟩ := he
          exact ((Kp.put hc2.1).trans (Kp.put hmay)).trans (last _ _)
  · cases he

theorem aAppendZ_keeps {e s : Nat} {v x r : Value} (he : aAppendZ P c h n e s v x = some (r, h', n')) : Kp c h n h' n' := by
  unfold aAppendZ at he
  split at he
  case h_2 => cases he
  rename_i m z _
  cases hb : (Nat.beq m 0 || !(Nat.beq z.cells.size s)) with
  | true => simp [hb] at he
  | false =>
  simp only [hb, cond_false] at he
  split at he
  · rename_i len cap
    cases hb2 : (Nat.beq len 0 && Nat.beq cap 0) with
    | false => simp [hb2] at he
    | true => simp only [hb2, cond_true] at he; exact aGrow_keeps he
  · rename_i b o len cap
    cases hb2 : (Nat.beq (cap / OPEN) 0 && Nat.ble (cap + 1) (len + m)) with
    | false => simp [hb2] at he
    | true =>
    simp only [hb2, cond_true] at he
    split at he
    · exact aGrow_keeps he
    · cases he
  · cases he

theorem aUpdate_keeps {t : TypeId} {m k v : Value} (he : aUpdate P c h n t m k v = some h') : Kp c h n h' n := by
  unfold aUpdate at he
  split at he
  case h_2 => cases he
  rename_i b _
  split at he
  · cases he
  rename_i es _
  cases hb : (may c n b && keyFits P t k) with
  | false => simp [hb] at he
  | true =>
  simp only [hb, cond_true] at he
  simp only [Bool.and_eq_true] at hb
  split at he <;> first | (cases he; done) | skip
  all_goals
    simp only [Option.some.injEq] at he
    subst he
    exact Kp.put hb.1

theorem aDelete_keeps {t : TypeId} {m k : Value} (he : aDelete P c h n t m k = some h') : Kp c h n h' n := by
  unfold aDelete at he
  split at he
  case h_2 => cases he
  rename_i b _
  split at he
  · cases he
  rename_i es _
  cases hb : (may c n b && keyFits P t k) with
  | false => simp [hb] at he
  | true =>
  simp only [hb, cond_true] at he
  simp only [Bool.and_eq_true] at hb
  split at he <;> first | (cases he; done) | skip
  all_goals
    simp only [Option.some.injEq] at he
    subst he
    exact Kp.put hb.1

theorem aCopy_keeps {t : TypeId} {d x r : Value} (he : aCopy P c h n t d x = some (r, h', n')) : Kp c h n h' n' := by
  unfold aCopy at he
  split at he
  · cases he
  split at he
  · cases he
  dsimp only at he
  split at he
  · rename_i l _ _ _
    cases hb : Nat.beq l 0 with
    | false => simp [hb] at he
    | true => simp only [hb, cond_true] at he; exact same_keeps he
  · rename_i b o l cap k _
    cases hb : Nat.beq (Nat.min k l) 0 with
    | true => simp only [hb, cond_true] at he; exact same_keeps he
    | false =>
      simp only [hb, cond_false] at he
      split at he
      · cases he
      · exact write_map (fun _ => rfl) he
  · cases he

theorem aClear_keeps {t : TypeId} {x r : Value} (he : aClear P c h n t x = some (r, h', n')) : Kp c h n h' n' := by
  unfold aClear at he
  split at he
  · cases he
  split at he
  · exact same_keeps he
  · rename_i b o l cap
    cases hb : Nat.beq l 0 with
    | true => simp only [hb, cond_true] at he; exact same_keeps he
    | false =>
      simp only [hb, cond_false] at he
      split at he
      case h_2 => cases he
      rename_i z s _ _
      cases hb2 : Nat.beq z.cells.size s with
      | false => simp [hb2] at he
      | true => simp only [hb2, cond_true] at he; exact write_map (fun _ => rfl) he
  · cases he

theorem aConvert_keeps {s d : TypeId} {x r : Value} (he : aConvert P c h n s d x = some (r, h', n')) : Kp c h n h' n' := by
  unfold aConvert at he
  split at he
  · rename_i e a len cap _ _
    split at he
    case h_2 => cases he
    split at he
    · exact same_keeps he
    · cases hb : Nat.beq len 0 with
      | true => simp only [hb, cond_true] at he; exact same_keeps he
      | false =>
        simp only [hb, cond_false] at he
        split at he
        case h_2 => cases he
        obtain ⟨l, _, hre⟩ := Option.map_eq_some_iff.1 he
        exact same_keeps (congrArg some hre)
    · cases he
  · exact same_keeps he
  · rename_i e e2 b o l k _ _
    cases hb : (Nat.beq s d && Nat.ble 1 l) with
    | false => simp [hb] at he
    | true =>
    simp only [hb, cond_true] at he
    split at he
    · exact same_keeps he
    · cases he
  · rename_i e b _ _
    split at he
    case h_2 => cases he
    cases hb : Nat.ble (b.size + 1) BIG with
    | false => simp [hb] at he
    | true => simp only [hb, cond_true] at he; exact new_map (fun _ => rfl) he
  · cases he

theorem aMakeSlice_keeps {t : TypeId} {l k r : Value} (he : aMakeSlice P h n t l k = some (r, h', n')) : Kp c h n h' n' := by
  unfold aMakeSlice at he
  split at he
  · cases he
  split at he
  case h_2 => cases he
  rename_i i z l k _ _ _ _
  cases hb : (Nat.ble l k && (Nat.ble (k * (i.bytes + 1)) BIG && Nat.beq z.cells.size i.size)) with
  | false => simp [hb] at he
  | true => simp only [hb, cond_true] at he; exact new_map (fun _ => rfl) he

theorem aBuildSlice_keeps {t : TypeId} {len : Nat} {ps : List (Nat × Value)} {r : Value} (he : aBuildSlice P h n t len ps = some (r, h', n')) : Kp c h n h' n' := by
  unfold aBuildSlice at he
  split at he
  · cases he
  split at he
  case h_2 => cases he
  rename_i s z _ _
  cases hb : (Nat.ble (len * s) 65536 && (Nat.beq z.cells.size s && Nat.ble 1 s)) with
  | false => simp [hb] at he
  | true =>
  simp only [hb, cond_true] at he
  split at he
  case h_2 => cases he
  exact new_map (fun _ => rfl) he

theorem keepV_keeps {o : Option Mem} {r : Value} (hk : ∀ h1, o = some h1 → Kp c h n h1 n) (he : keepV n o = some (r, h', n')) : Kp c h n h' n' := by
  unfold keepV at he
  split at he
  case h_2 => cases he
  rename_i h1
  simp only [Option.some.injEq, Prod.mk.injEq] at he
  obtain ⟨_, rfl, rfl⟩ := he
  exact hk _ rfl

theorem aBuiltin_keeps {b : Builtin} {ts : Array TypeId} {args : List Value} {r : Value} (he : aBuiltin P c h n b ts args = some (r, h', n')) : Kp c h n h' n' := by
  unfold aBuiltin at he
  split at he
  · exact keepN_keeps he
  · exact keepN_keeps he
  · split at he
    · split at he <;> first | (cases he; done) | (exact aAppend_keeps he) | (exact aAppendZ_keeps he)
    · cases he
  · exact aCopy_keeps he
  · exact aClear_keeps he
  · split at he
    · rename_i h1 hd
      simp only [Option.some.injEq, Prod.mk.injEq] at he
      obtain ⟨_, rfl, rfl⟩ := he
      exact aDelete_keeps hd
    · cases he
  · rename_i x rest
    cases ha : (x :: rest).all (atom 0) with
    | false => simp [ha] at he
    | true => simp only [ha, cond_true] at he; exact keepN_keeps he
  · rename_i x rest
    cases ha : (x :: rest).all (atom 0) with
    | false => simp [ha] at he
    | true => simp only [ha, cond_true] at he; exact keepN_keeps he
  · cases he

def CallKp (call : CallT) : Prop := ∀ c f args h n r h' n', call c f args h n = some (r, h', n') → Kp c h n h' n'

theorem aCall_keeps {call : CallT} (hc : CallKp call) {env : Env} {k : Call} {r : Value} (he : aCall call P c env h n k = some (r, h', n')) : Kp c h n h' n' := by
  unfold aCall at he
  split at he
  · cases he
  split at he
  · exact aBuiltin_keeps he
  · cases he
  · split at he
    case h_2 => cases he
    rename_i fid _ _ _
    cases hen : enters P fid with
    | false => simp [hen] at he
    | true => simp only [hen, cond_true] at he; exact hc _ _ _ _ _ _ _ _ he

set_option maxHeartbeats 1000000 in
theorem evOp_keeps {call : CallT} (hc : CallKp call) {env : Env} {op : Op} {r : Value} (he : evOp call P c env h n op = some (r, h', n')) : Kp c h n h' n' := by
  cases op <;> simp only [evOp] at he <;> (first | (cases he; done) | (exact keepN_keeps he) | (split at he <;> first | (cases he; done) | (exact keepN_keeps he) | (exact same_keeps he) | (exact new_map (fun _ => rfl) he) | (exact aBuildSlice_keeps he) | (exact aMakeSlice_keeps he) | (exact keepV_keeps (fun _ h => aStore_keeps h) he) | (exact keepV_keeps (fun _ h => aUpdate_keeps h) he)) | (exact aCall_keeps hc he) | skip)
  case unOp op t x =>
    split at he
    case h_2 => cases he
    rename_i u _
    cases hat : atom 0 u with
    | false => simp [hat] at he
    | true => simp only [hat, cond_true] at he; exact keepN_keeps he
  case convert s d x =>
    split at he
    case h_2 => cases he
    split at he
    · exact keepN_keeps he
    · exact keepN_keeps he
    · exact aConvert_keeps he
  case makeInterface t x =>
    split at he
    case h_2 => cases he
    split at he <;> first | (cases he; done) | exact same_keeps he
  case makeMap t rv =>
    cases rv with
    | some _ => simp at he
    | none => exact new_map (fun _ => rfl) he
  case slice t x lo hi mx =>
    split at he
    case h_2 => cases he
    rename_i u lo' hi' mx' _ _ _ _
    split at he
    · cases hat : (lo'.all (atom 0) && (hi'.all (atom 0) && mx'.all (atom 0))) with
      | false => simp [hat] at he
      | true => simp only [hat, cond_true] at he; exact keepN_keeps he
    · exact keepN_keeps he
  case index t x i =>
    split at he
    case h_2 => cases he
    rename_i u v _ _
    split at he
    · cases hat : atom 0 v with
      | false => simp [hat] at he
      | true => simp only [hat, cond_true] at he; exact keepN_keeps he
    · exact keepN_keeps he
  case lookup t x i ok =>
    split at he
    case h_2 => cases he
    rename_i u v _ _
    cases hat : atom 0 v with
    | false => simp [hat] at he
    | true => simp only [hat, cond_true] at he; exact keepN_keeps he

end
end Go.Proofs.YtpbnpbmiijgeiaaGreatDoor.Ev
