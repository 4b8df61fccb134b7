/- An evaluator of the program's code, made fast for the kernel: the same functions by the types' own recursors, each case a constant of its own (the kernel copies no case that it does not take). Each is shown to be the evaluator's own. No condition. -/
import Derived.Test.YtpbnpbmiijgeiaaGreatDoorEvW
namespace Go.Proofs.YtpbnpbmiijgeiaaGreatDoor.Ev
open Go Go.RowKit
noncomputable section

abbrev KK := CallT → Program → Ctx → Env → Mem → Nat → R
abbrev RE := Option (Env × Mem × Nat)
abbrev RC := Option (AExit × Env × Mem × Nat)

/-! ### Operands -/
def fvT (t : Tmp) : Env → Option Value := fun env => some (@Option.rec Value (fun _ => Value) undef (fun v => v) (Tri.find env t))
def fvC (v : Value) : Env → Option Value := fun _ => @Bool.rec (fun _ => Option Value) none (some v) (atom 3 v)
def fvG (g : Nat) : Env → Option Value := fun _ => @Bool.rec (fun _ => Option Value) none (some (.pointer (some ⟨g, 0, none⟩))) (Nat.ble (g + 1) GLIM)
def fvF (f : FuncId) : Env → Option Value := fun _ => some (.func (.func f) #[] #[])
def fv : Operand → Env → Option Value := @Operand.rec (fun _ => Env → Option Value) fvT fvC fvG fvF
theorem fv_eq (x : Operand) (env : Env) : fv x env = opv env x := by
  cases x with
  | tmp t =>
    show some (@Option.rec Value (fun _ => Value) undef (fun v => v) (Tri.find env t)) = some ((Tri.find env t).getD undef)
    cases Tri.find env t <;> rfl
  | const v =>
    show @Bool.rec (fun _ => Option Value) none (some v) (atom 3 v) = bif atom 3 v then some v else none
    cases atom 3 v <;> rfl
  | global g =>
    show @Bool.rec (fun _ => Option Value) none _ (Nat.ble (g + 1) GLIM) = bif Nat.ble (g + 1) GLIM then _ else none
    cases Nat.ble (g + 1) GLIM <;> rfl
  | func f => rfl
def fvs : List Operand → Env → Option (List Value) :=
  @List.rec Operand (fun _ => Env → Option (List Value)) (fun _ => some [])
    (fun x _ ih env => @Option.rec Value (fun _ => Option (List Value)) none (fun v => @Option.rec (List Value) (fun _ => Option (List Value)) none (fun vs => some (v :: vs)) (ih env)) (fv x env))
theorem fvs_eq (env : Env) : ∀ l, fvs l env = opvs env l
  | [] => rfl
  | x :: r => by
    show @Option.rec Value (fun _ => Option (List Value)) none (fun v => @Option.rec (List Value) (fun _ => Option (List Value)) none (fun vs => some (v :: vs)) (fvs r env)) (fv x env) = _
    rw [fv_eq, fvs_eq env r, opvs]
    cases opv env x <;> cases opvs env r <;> rfl

/-! ### Values looked at -/
def ptrOf (v : Value) : Option (Nat × Nat) :=
  match v with
  | .pointer (some ⟨b, o, none⟩) => some (b, o)
  | _ => none
def boolOf (v : Value) : Option Bool :=
  match v with
  | .bool b => some b
  | _ => none
def intOf (v : Value) : Option (IntKind × Int) :=
  match v with
  | .int k n => some (k, n)
  | _ => none
def funcOf (v : Value) : Option (FuncId × List Value × List Value) :=
  match v with
  | .func (.func f) xs ys => some (f, xs.toList, ys.toList)
  | _ => none

/-! ### Numbers -/
abbrev IK := IntKind → Int → Int → Option Value
def iNo : IK := fun _ _ _ => none
def iAdd : IK := fun k a b => some (.int k (k.wrap (a + b)))
def iSub : IK := fun k a b => some (.int k (k.wrap (a - b)))
def iMul : IK := fun k a b => some (.int k (k.wrap (a * b)))
def iAnd : IK := fun k a b => some (.int k (k.wrap ((BitVec.ofInt k.bits a &&& BitVec.ofInt k.bits b).toNat : Int)))
def iOr : IK := fun k a b => some (.int k (k.wrap ((BitVec.ofInt k.bits a ||| BitVec.ofInt k.bits b).toNat : Int)))
def iXor : IK := fun k a b => some (.int k (k.wrap ((BitVec.ofInt k.bits a ^^^ BitVec.ofInt k.bits b).toNat : Int)))
def iEql : IK := fun _ a b => some (.bool (a == b))
def iNeq : IK := fun _ a b => some (.bool (a != b))
def iLss : IK := fun _ a b => some (.bool (decide (a < b)))
def iLeq : IK := fun _ a b => some (.bool (decide (a ≤ b)))
def iGtr : IK := fun _ a b => some (.bool (decide (a > b)))
def iGeq : IK := fun _ a b => some (.bool (decide (a ≥ b)))
/-- numbers of one kind: add sub mul quo rem and or xor shl shr andNot eql neq lss leq gtr geq -/
def fInt : BinOp → IK := @BinOp.rec (fun _ => IK) iAdd iSub iMul iNo iNo iAnd iOr iXor iNo iNo iNo iEql iNeq iLss iLeq iGtr iGeq
theorem fInt_ok {P : Program} {op : BinOp} {t : TypeId} {x y : Operand} {k : IntKind} {a b : Int} {v : Value} (h : fInt op k a b = some v) : aBin P op t x y (.int k a) (.int k b) = some v := by
  have key : ∀ v, fInt op k a b = some v → pureV P (do eqGuard op t x y (.int k a) (.int k b); binOp op t (.int k a) (.int k b)) = some v := by
    intro v h
    have pr : ∀ u : Value, pureRun P (pure u) = some u := fun _ => rfl
    cases op <;> first | (cases h; done) | skip
    all_goals
      cases h
      first
        | rfl
        | simp [pureV, eqGuard, binOp, Op.intArith, Op.intBits, Op.intCmp, pr, atom]
  exact key v h
def fBinSlow (op : BinOp) (t : TypeId) (x y : Operand) (P : Program) (a b : Value) : Option Value := aBin P op t x y a b
def fBinInt (op : BinOp) (t : TypeId) (x y : Operand) (P : Program) (a b : Value) (p q : IntKind × Int) : Option Value :=
  @Bool.rec (fun _ => Option Value) (fBinSlow op t x y P a b) (@Option.rec Value (fun _ => Option Value) (fBinSlow op t x y P a b) some (fInt op p.1 p.2 q.2)) (decide (p.1 = q.1))
def fBin (op : BinOp) (t : TypeId) (x y : Operand) (P : Program) (a b : Value) : Option Value :=
  @Option.rec (IntKind × Int) (fun _ => Option Value) (fBinSlow op t x y P a b) (fun p => @Option.rec (IntKind × Int) (fun _ => Option Value) (fBinSlow op t x y P a b) (fun q => fBinInt op t x y P a b p q) (intOf b)) (intOf a)
theorem intOf_some {v : Value} {p : IntKind × Int} (h : intOf v = some p) : v = .int p.1 p.2 := by
  unfold intOf at h
  split at h
  · cases h; rfl
  · cases h
theorem fBin_eq (op : BinOp) (t : TypeId) (x y : Operand) (P : Program) (a b : Value) : fBin op t x y P a b = aBin P op t x y a b := by
  unfold fBin
  cases ha : intOf a with
  | none => rfl
  | some p =>
    cases hb : intOf b with
    | none => rfl
    | some q =>
      obtain rfl := intOf_some ha
      obtain rfl := intOf_some hb
      show fBinInt _ _ _ _ _ _ _ _ _ = _
      unfold fBinInt
      cases hk : decide (p.1 = q.1) with
      | false => rfl
      | true =>
        have hk' := of_decide_eq_true hk
        cases hi : fInt op p.1 p.2 q.2 with
        | none => rfl
        | some v =>
          show some v = _
          rw [← hk']
          exact (fInt_ok hi).symm

/-! ### Lists -/
def nth : List Value → Nat → Option Value :=
  @List.rec Value (fun _ => Nat → Option Value) (fun _ => none) (fun a _ ih k => @Bool.rec (fun _ => Option Value) (ih (Nat.sub k 1)) (some a) (Nat.beq k 0))
theorem nth_eq : ∀ (l : List Value) (k : Nat), nth l k = l[k]?
  | [], k => by simp [nth]
  | a :: r, k => by
    show @Bool.rec (fun _ => Option Value) (nth r (Nat.sub k 1)) (some a) (Nat.beq k 0) = _
    cases k with
    | zero => rfl
    | succ k => rw [nth_eq r]; simp; rfl

/-! ### Loads -/
def fLoadAt (agg : Option Bool) (size : Option Nat) (o : Nat) (cs : List Value) : Option Value :=
  @Option.rec Bool (fun _ => Option Value) none (fun g => @Bool.rec (fun _ => Option Value) (nth cs o)
    (@Option.rec Nat (fun _ => Option Value) none (fun s => @Option.rec (List Value) (fun _ => Option Value) none (fun p => some (.agg p.toArray)) (piece cs o s)) size) g) agg
def fCells (o : AObj) : Option (List Value) := @AObj.rec (fun _ => Option (List Value)) (fun c _ => some c) (fun _ => none) (fun c => some c) o
def fLook (ban : List (Nat × Nat)) (h : Mem) (b : Nat) : Option AObj := @Bool.rec (fun _ => Option AObj) (Tri.find h b) none (inBan ban b)
def fLoad (P : Program) (c : Ctx) (h : Mem) (t : TypeId) (v : Value) : Option Value :=
  @Option.rec (Nat × Nat) (fun _ => Option Value) none (fun p => @Option.rec AObj (fun _ => Option Value) none
    (fun ob => @Option.rec (List Value) (fun _ => Option Value) none (fun cs => fLoadAt (isAggT P t) (sizeT P t) p.2 cs) (fCells ob)) (fLook c.ban h p.1)) (ptrOf v)
theorem fLook_eq (c : Ctx) (h : Mem) (b : Nat) : fLook c.ban h b = look c h b := by
  unfold fLook look; cases inBan c.ban b <;> rfl
theorem fLoad_eq (P : Program) (c : Ctx) (h : Mem) (t : TypeId) (v : Value) : fLoad P c h t v = aLoad P c h t v := by
  have no : ∀ v, ptrOf v = none → fLoad P c h t v = none := by intro v e; unfold fLoad; rw [e]
  unfold aLoad
  split
  · rename_i b o
    show @Option.rec AObj (fun _ => Option Value) none (fun ob => @Option.rec (List Value) (fun _ => Option Value) none (fun cs => fLoadAt (isAggT P t) (sizeT P t) o cs) (fCells ob)) (fLook c.ban h b) = _
    rw [fLook_eq]
    unfold cellsAt
    cases look c h b with
    | none => rfl
    | some ob =>
      cases ob with
      | map es => rfl
      | cells cs lk =>
        show fLoadAt (isAggT P t) (sizeT P t) o cs = _
        unfold fLoadAt
        rw [nth_eq]
        cases isAggT P t with
        | none => rfl
        | some g => cases g with
          | false => rfl
          | true => cases sizeT P t with
            | none => rfl
            | some s => show _ = Option.map _ _; dsimp only; cases piece cs o s <;> rfl
      | ro cs =>
        show fLoadAt (isAggT P t) (sizeT P t) o cs = _
        unfold fLoadAt
        rw [nth_eq]
        cases isAggT P t with
        | none => rfl
        | some g => cases g with
          | false => rfl
          | true => cases sizeT P t with
            | none => rfl
            | some s => show _ = Option.map _ _; dsimp only; cases piece cs o s <;> rfl
  · rename_i hn
    apply no
    unfold ptrOf
    split
    · rename_i b o; exact absurd rfl (hn b o)
    · rfl

/-! ### Operations -/
def oGen (o : Op) : KK := fun call P c env h n => evOp call P c env h n o
def fKeep (h : Mem) (n : Nat) : Option Value → R := @Option.rec Value (fun _ => R) none (fun v => some (v, h, n))
theorem fKeep_eq (h : Mem) (n : Nat) (o : Option Value) : fKeep h n o = keepN h n o := by cases o <;> rfl
def oMove (x : Operand) : KK := fun _ _ _ env h n => fKeep h n (fv x env)
def oBin (op : BinOp) (t : TypeId) (x y : Operand) (_ : TypeId) : KK := fun _ P _ env h n =>
  @Option.rec Value (fun _ => R) none (fun a => @Option.rec Value (fun _ => R) none (fun b => fKeep h n (fBin op t x y P a b)) (fv y env)) (fv x env)
def oLoad (t : TypeId) (x : Operand) : KK := fun _ P c env h n => @Option.rec Value (fun _ => R) none (fun v => fKeep h n (fLoad P c h t v)) (fv x env)
def oFieldAddr (t : TypeId) (x : Operand) (f : Nat) : KK := fun _ P _ env h n => @Option.rec Value (fun _ => R) none (fun v => fKeep h n (aFieldAddr P t v f)) (fv x env)
def oField (t : TypeId) (x : Operand) (f : Nat) : KK := fun _ P _ env h n => @Option.rec Value (fun _ => R) none (fun v => fKeep h n (aField P t v f)) (fv x env)
def oIndexAddr (t : TypeId) (x i : Operand) : KK := fun _ P _ env h n =>
  @Option.rec Value (fun _ => R) none (fun a => @Option.rec Value (fun _ => R) none (fun b => fKeep h n (aIndexAddr P t a b)) (fv i env)) (fv x env)
def oStore (t : TypeId) (x y : Operand) : KK := fun _ P c env h n =>
  @Option.rec Value (fun _ => R) none (fun a => @Option.rec Value (fun _ => R) none (fun b => keepV n (aStore P c h n t a b)) (fv y env)) (fv x env)
def fConvInt (P : Program) (s d : TypeId) (a : Value) (z : Int) (h : Mem) (n : Nat) : R :=
  @Option.rec IntKind (fun _ => R) (keepN h n (pureV P (convert s d a))) (fun k => some (.int k (k.wrap z), h, n)) (match P.underlying s, P.underlying d with | some _, some (.int k) => some k | _, _ => none)
def oConvert (s d : TypeId) (x : Operand) : KK := fun _ P c env h n => @Option.rec Value (fun _ => R) none (fun a =>
  @Option.rec (IntKind × Int) (fun _ => R) (match a with | .int _ _ | .float _ _ => keepN h n (pureV P (convert s d a)) | _ => aConvert P c h n s d a) (fun p => fConvInt P s d a p.2 h n) (intOf a)) (fv x env)
def oExtract (x : Operand) (i : Nat) : KK := fun _ _ _ env h n => @Option.rec Value (fun _ => R) none (fun v => match v with | .tuple vs => fKeep h n (nth vs.toList i) | _ => none) (fv x env)

def cValue (f : Operand) : List TypeId → List Value → KK := fun _ args call P c env h n =>
  @Option.rec Value (fun _ => R) none (fun v => @Option.rec (FuncId × List Value × List Value) (fun _ => R) none
    (fun p => @Prod.rec FuncId (List Value × List Value) (fun _ => R) (fun f q => @Prod.rec (List Value) (List Value) (fun _ => R) (fun xs ys => @Bool.rec (fun _ => R) none (call c f (xs ++ args ++ ys) h n) (enters P f)) q) p) (funcOf v)) (fv f env)
def cInvoke (_ : Operand) (_ : String) : List TypeId → List Value → KK := fun _ _ _ _ _ _ _ _ => none
def cBuiltin (b : Builtin) : List TypeId → List Value → KK := fun ts args _ P c _ h n => aBuiltin P c h n b ts.toArray args
def fCallee : Callee → List TypeId → List Value → KK := @Callee.rec (fun _ => List TypeId → List Value → KK) cValue cInvoke cBuiltin
def oCall (k : Call) : KK := fun call P c env h n => @Option.rec (List Value) (fun _ => R) none (fun args => fCallee k.callee k.argTypes.toList args call P c env h n) (fvs k.args.toList env)

def fOp : Op → KK := @Op.rec (fun _ => KK)
  oMove oMove (fun a b c => oGen (.pick a b c)) (fun a => oGen (.alloc a)) (fun a b => oGen (.box a b)) (fun a b => oGen (.build a b)) (fun a b c => oGen (.buildSlice a b c)) (fun a b c d => oGen (.insert a b c d))
  oLoad oStore (fun a => oGen (.ready a)) (fun a => oGen (.waits a)) (fun a => oGen (.nilCheck a)) oBin (fun a b c => oGen (.unOp a b c)) oConvert (fun a b => oGen (.sliceToArrayPointer a b))
  (fun a b => oGen (.makeInterface a b)) (fun a b c => oGen (.makeFunc a b c)) (fun a b => oGen (.makeMap a b)) (fun a b => oGen (.makeChan a b)) (fun a b c => oGen (.makeSlice a b c)) (fun a b c d e => oGen (.slice a b c d e))
  oFieldAddr oField oIndexAddr (fun a b c => oGen (.index a b c)) (fun a b c d => oGen (.lookup a b c d)) (fun a b c d => oGen (.mapUpdate a b c d)) (fun a b c => oGen (.mapEntry a b c)) (fun a b c d => oGen (.entryStore a b c d))
  (fun a b => oGen (.range a b)) (fun a b => oGen (.next a b)) (fun a => oGen (.entry a)) (fun a b c d => oGen (.typeAssert a b c d)) oExtract oCall (fun a => oGen (.go a)) (fun a => oGen (.defer a)) (fun a => oGen (.panic a))
  (fun a b => oGen (.send a b)) (fun a b c => oGen (.recv a b c)) (fun a b => oGen (.select a b))
theorem pureRun_underlying {α : Type} {P : Program} {s : TypeId} {ds : TypeDesc} (hs : P.underlying s = some ds) (f : TypeDesc → Sem α) : pureRun P (underlying s >>= f) = pureRun P (f ds) := by
  show pureRun P (Sem.bind (match P.underlying s with | some d => pure d | none => stuck "no such type") f) = _
  rw [hs]
  rfl
theorem fConvInt_eq (P : Program) (s d : TypeId) (k0 : IntKind) (z : Int) (h : Mem) (n : Nat) : fConvInt P s d (.int k0 z) z h n = keepN h n (pureV P (convert s d (.int k0 z))) := by
  unfold fConvInt
  cases hs : P.underlying s with
  | none => rfl
  | some ds => cases hd : P.underlying d with
    | none => rfl
    | some dd => cases dd <;> first | rfl | skip
                 rename_i k
                 show (some (Value.int k (k.wrap z), h, n) : R) = _
                 have : pureV P (convert s d (.int k0 z)) = some (.int k (k.wrap z)) := by
                   have h1 : pureRun P (convert s d (.int k0 z)) = some (.int k (k.wrap z)) := by
                     unfold convert
                     rw [pureRun_underlying hs, pureRun_underlying hd]
                     cases ds <;> rfl
                   unfold pureV
                   rw [h1]
                   rfl
                 rw [this]; rfl
theorem fOp_eq (o : Op) (call : CallT) (P : Program) (c : Ctx) (env : Env) (h : Mem) (n : Nat) : fOp o call P c env h n = evOp call P c env h n o := by
  cases o <;> first | rfl | skip
  case move x => show fKeep h n (fv x env) = keepN h n (opv env x); rw [fKeep_eq, fv_eq]
  case assign x => show fKeep h n (fv x env) = keepN h n (opv env x); rw [fKeep_eq, fv_eq]
  case binOp op t x y s =>
    simp only [evOp]
    show @Option.rec Value (fun _ => R) none (fun a => @Option.rec Value (fun _ => R) none (fun b => fKeep h n (fBin op t x y P a b)) (fv y env)) (fv x env) = _
    rw [fv_eq, fv_eq]
    cases opv env x <;> cases opv env y <;> first | rfl | (dsimp only; rw [fKeep_eq, fBin_eq])
  case load t x =>
    simp only [evOp]
    show @Option.rec Value (fun _ => R) none (fun v => fKeep h n (fLoad P c h t v)) (fv x env) = _
    rw [fv_eq]
    cases opv env x <;> first | rfl | (dsimp only; rw [fKeep_eq, fLoad_eq])
  case fieldAddr t x f =>
    simp only [evOp]
    show @Option.rec Value (fun _ => R) none (fun v => fKeep h n (aFieldAddr P t v f)) (fv x env) = _
    rw [fv_eq]
    cases opv env x <;> first | rfl | (dsimp only; rw [fKeep_eq])
  case field t x f =>
    simp only [evOp]
    show @Option.rec Value (fun _ => R) none (fun v => fKeep h n (aField P t v f)) (fv x env) = _
    rw [fv_eq]
    cases opv env x <;> first | rfl | (dsimp only; rw [fKeep_eq])
  case indexAddr t x i =>
    simp only [evOp]
    show @Option.rec Value (fun _ => R) none (fun a => @Option.rec Value (fun _ => R) none (fun b => fKeep h n (aIndexAddr P t a b)) (fv i env)) (fv x env) = _
    rw [fv_eq, fv_eq]
    cases opv env x <;> cases opv env i <;> first | rfl | (dsimp only; rw [fKeep_eq])
  case store t x y =>
    simp only [evOp]
    show @Option.rec Value (fun _ => R) none (fun a => @Option.rec Value (fun _ => R) none (fun b => keepV n (aStore P c h n t a b)) (fv y env)) (fv x env) = _
    rw [fv_eq, fv_eq]
    cases opv env x <;> cases opv env y <;> rfl
  case convert s d x =>
    simp only [evOp]
    show @Option.rec Value (fun _ => R) none (fun (a : Value) => @Option.rec (IntKind × Int) (fun _ => R) (match a with | .int _ _ | .float _ _ => keepN h n (pureV P (convert s d a)) | _ => aConvert P c h n s d a) (fun p => fConvInt P s d a p.2 h n) (intOf a)) (fv x env) = _
    rw [fv_eq]
    cases opv env x with
    | none => rfl
    | some a =>
      dsimp only
      cases a <;> first | rfl | skip
      exact fConvInt_eq _ _ _ _ _ _ _
  case extract x i =>
    simp only [evOp]
    show @Option.rec Value (fun _ => R) none (fun v => match v with | .tuple vs => fKeep h n (nth vs.toList i) | _ => none) (fv x env) = _
    rw [fv_eq]
    cases opv env x with
    | none => rfl
    | some a =>
      dsimp only
      cases a <;> first | rfl | skip
      dsimp only
      rw [fKeep_eq, nth_eq]
  case call k =>
    simp only [evOp]
    show @Option.rec (List Value) (fun _ => R) none (fun args => fCallee k.callee k.argTypes.toList args call P c env h n) (fvs k.args.toList env) = _
    rw [fvs_eq]
    unfold aCall
    cases opvs env k.args.toList with
    | none => rfl
    | some args =>
      dsimp only
      cases k.callee with
      | builtin b => rfl
      | invoke x m => rfl
      | value f =>
        show @Option.rec Value (fun _ => R) none (fun v => @Option.rec (FuncId × List Value × List Value) (fun _ => R) none (fun p => @Prod.rec FuncId (List Value × List Value) (fun _ => R) (fun f q => @Prod.rec (List Value) (List Value) (fun _ => R) (fun xs ys => @Bool.rec (fun _ => R) none (call c f (xs ++ args ++ ys) h n) (enters P f)) q) p) (funcOf v)) (fv f env) = _
        rw [fv_eq]
        dsimp only
        generalize opv env f = q
        cases q with
        | none => rfl
        | some v =>
          dsimp only
          cases v with
          | func fn xs ys =>
            cases fn with
            | func g => dsimp only [funcOf]; cases enters P g <;> rfl
            | _ => rfl
          | _ => rfl

/-! ### Regions -/
abbrev KS := CallT → Program → Ctx → Nat → List Oper → Env → Mem → Nat → RE
def fPut (nt : Nat) (env : Env) (v : Value) : Option Tmp → Option Env :=
  @Option.rec Tmp (fun _ => Option Env) (some env) (fun t => @Bool.rec (fun _ => Option Env) none (@Bool.rec (fun _ => Option Env) none (some (Tri.put 32 env t (some v))) (Nat.ble nt 1000000)) (Nat.ble (t + 1) nt))
theorem fPut_eq (nt : Nat) (env : Env) (v : Value) (d : Option Tmp) : fPut nt env v d = putE nt env d v := by
  cases d with
  | none => rfl
  | some t =>
    show @Bool.rec (fun _ => Option Env) none (@Bool.rec (fun _ => Option Env) none (some (Tri.put 32 env t (some v))) (Nat.ble nt 1000000)) (Nat.ble (t + 1) nt) = bif Nat.ble (t + 1) nt && Nat.ble nt 1000000 then _ else _
    cases Nat.ble (t + 1) nt <;> cases Nat.ble nt 1000000 <;> rfl
def fWantG (p : Nat × Bool) : List Oper → Env → Bool := fun all env =>
  match (all[p.1]?).bind (·.dst) with
  | some t => match (env.find t).getD undef with
    | .bool b => b == p.2
    | _ => false
  | none => false
def fWant : Option (Nat × Bool) → List Oper → Env → Bool := @Option.rec (Nat × Bool) (fun _ => List Oper → Env → Bool) (fun _ _ => true) fWantG
theorem fWant_eq (all : List Oper) (env : Env) (o : Oper) : fWant o.guard all env = wantedE all env o := by
  unfold wantedE
  cases o.guard with
  | none => rfl
  | some p => rfl
def fSeqNil : KS := fun _ _ _ _ _ env h n => some (env, h, n)
def fSeqPut (ih : KS) (d : Option Tmp) (n0 : Nat) (call : CallT) (P : Program) (c : Ctx) (nt : Nat) (all : List Oper) (env : Env) (v : Value) (h : Mem) (n1 : Nat) : RE :=
  @Bool.rec (fun _ => RE) none (@Option.rec Env (fun _ => RE) none (fun env' => ih call P c nt all env' h n1) (fPut nt env v d)) (Nat.ble n0 n1)
def fSeqGo (o : Oper) (ih : KS) : KS := fun call P c nt all env h n =>
  @Option.rec (Value × Mem × Nat) (fun _ => RE) none (fun r => @Prod.rec Value (Mem × Nat) (fun _ => RE) (fun v q => @Prod.rec Mem Nat (fun _ => RE) (fun h1 n1 => fSeqPut ih o.dst n call P c nt all env v h1 n1) q) r) (fOp o.op call P c env h n)
def fSeqSkip (o : Oper) (ih : KS) : KS := fun call P c nt all env h n => @Option.rec Env (fun _ => RE) none (fun env' => ih call P c nt all env' h n) (fPut nt env undef o.dst)
def fSeqCons (o : Oper) (_ : List Oper) (ih : KS) : KS := fun call P c nt all env h n =>
  @Bool.rec (fun _ => RE) (fSeqSkip o ih call P c nt all env h n) (fSeqGo o ih call P c nt all env h n) (fWant o.guard all env)
def fSeq : List Oper → KS := @List.rec Oper (fun _ => KS) fSeqNil fSeqCons
theorem fSeq_eq (call : CallT) (P : Program) (c : Ctx) (nt : Nat) (all : List Oper) : ∀ (l : List Oper) (env : Env) (h : Mem) (n : Nat), fSeq l call P c nt all env h n = evSeq call P c nt all l env h n
  | [], env, h, n => rfl
  | o :: r, env, h, n => by
    show @Bool.rec (fun _ => RE) (fSeqSkip o (fSeq r) call P c nt all env h n) (fSeqGo o (fSeq r) call P c nt all env h n) (fWant o.guard all env) = _
    rw [fWant_eq, evSeq]
    cases wantedE all env o with
    | true =>
      show fSeqGo o (fSeq r) call P c nt all env h n = _
      unfold fSeqGo
      rw [fOp_eq]
      cases evOp call P c env h n o.op with
      | none => rfl
      | some q =>
        obtain ⟨v, h1, n1⟩ := q
        show fSeqPut (fSeq r) o.dst n call P c nt all env v h1 n1 = _
        unfold fSeqPut
        rw [fPut_eq]
        dsimp only [cond_true]
        cases Nat.ble n n1 with
        | false => rfl
        | true =>
          dsimp only [cond_true]
          cases putE nt env o.dst v with
          | none => rfl
          | some env' => exact fSeq_eq call P c nt all r env' h1 n1
    | false =>
      show fSeqSkip o (fSeq r) call P c nt all env h n = _
      unfold fSeqSkip
      rw [fPut_eq]
      dsimp only [cond_false]
      cases putE nt env o.dst undef with
      | none => rfl
      | some env' => exact fSeq_eq call P c nt all r env' h n

/-! ### Code -/
abbrev KC := CallT → Program → Ctx → Nat → Env → Mem → Nat → RC
abbrev KD := (Code → KC) → KC
def cNone : KC := fun _ _ _ _ _ _ _ => none
def cEnd (e : AExit) : KC := fun _ _ _ _ env h n => some (e, env, h, n)
def dEnd (e : AExit) : KD := fun _ => cEnd e
def dNone : KD := fun _ => cNone
def fOfRE : RE → RC := @Option.rec (Env × Mem × Nat) (fun _ => RC) none (fun r => some (.normal, r))
def fDrawn (l : List Oper) (call : CallT) (P : Program) (c : Ctx) (nt : Nat) (env : Env) (h : Mem) (n : Nat) : RE :=
  bif okDraw l (masks l []) then evDraw call P c nt l (masks l []) n l 0 [] [] [] [] env h n else none
def dRegion (_ : Nat) (ops : Array Oper) (draw : Bool) : KD := fun _ call P c nt env h n =>
  fOfRE (@Bool.rec (fun _ => RE) (fSeq ops.toList call P c nt ops.toList env h n) (fDrawn ops.toList call P c nt env h n) draw)
def cThen (y : KC) (call : CallT) (P : Program) (c : Ctx) (nt : Nat) : RC → RC :=
  @Option.rec (AExit × Env × Mem × Nat) (fun _ => RC) none (fun r => @Prod.rec AExit (Env × Mem × Nat) (fun _ => RC) (fun e q => @AExit.rec (fun _ => RC) (@Prod.rec Env (Mem × Nat) (fun _ => RC) (fun env1 q => @Prod.rec Mem Nat (fun _ => RC) (fun h1 n1 => y call P c nt env1 h1 n1) q) q) (fun i => some (.exit i, q)) (some (.ret, q)) e) r)
def dSeq (a b : Code) (_ _ : KD) : KD := fun ih call P c nt env h n => cThen (ih b) call P c nt (ih a call P c nt env h n)
def dCond (x : Operand) (a b : Code) (_ _ : KD) : KD := fun ih call P c nt env h n =>
  @Option.rec Value (fun _ => RC) none (fun v => @Option.rec Bool (fun _ => RC) none (fun q => @Bool.rec (fun _ => RC) (ih b call P c nt env h n) (ih a call P c nt env h n) q) (boolOf v)) (fv x env)
def cOut (id : Nat) : RC → RC :=
  @Option.rec (AExit × Env × Mem × Nat) (fun _ => RC) none (fun r => @Prod.rec AExit (Env × Mem × Nat) (fun _ => RC) (fun e q => @AExit.rec (fun _ => RC) (some (.normal, q)) (fun i => @Bool.rec (fun _ => RC) (some (.exit i, q)) (some (.normal, q)) (Nat.beq i id)) (some (.ret, q)) e) r)
def dBlock (id : Nat) (a : Code) (_ : KD) : KD := fun ih call P c nt env h n => cOut id (ih a call P c nt env h n)
def dLoop (a : Code) (_ : KD) : KD := fun ih call P c nt env h n => cThen (ih (.loop a)) call P c nt (ih a call P c nt env h n)
def dScope (a : Code) (_ : KD) : KD := fun ih => ih a
def cDisp : Code → KD := @Code.rec (fun _ => KD) (dEnd .normal) dRegion dSeq dCond dBlock dLoop (fun _ _ _ _ _ _ => dNone) (fun id => dEnd (.exit id)) dScope (fun _ => dEnd .normal) (fun _ => dNone) (dEnd .ret) (fun _ => dNone)
def fCode : Nat → Code → KC := @Nat.rec (fun _ => Code → KC) (fun _ => cNone) (fun _ ih code => cDisp code ih)
theorem fCode_eq (call : CallT) (P : Program) (c : Ctx) (nt : Nat) : ∀ (f : Nat) (code : Code) (env : Env) (h : Mem) (n : Nat), fCode f code call P c nt env h n = evCode call P c nt f code env h n
  | 0, code, env, h, n => by rw [evCode]; rfl
  | f + 1, code, env, h, n => by
    have ih := fCode_eq call P c nt f
    have hthen : ∀ (y : Code) (r : RC), cThen (fCode f y) call P c nt r = (match r with | some (.normal, env, h, n) => evCode call P c nt f y env h n | r => r) := by
      intro y r
      cases r with
      | none => rfl
      | some q =>
        obtain ⟨e, env1, h1, n1⟩ := q
        cases e with
        | normal => exact ih y env1 h1 n1
        | exit i => rfl
        | ret => rfl
    show cDisp code (fCode f) call P c nt env h n = _
    cases code <;> (first | rfl | (simp only [evCode]; rfl) | skip)
    case region id ops draw =>
      simp only [evCode]
      show fOfRE (@Bool.rec (fun _ => RE) (fSeq ops.toList call P c nt ops.toList env h n) (fDrawn ops.toList call P c nt env h n) draw) = _
      rw [fSeq_eq]
      have : @Bool.rec (fun _ => RE) (evSeq call P c nt ops.toList ops.toList env h n) (fDrawn ops.toList call P c nt env h n) draw = (bif draw then (let ms := masks ops.toList []; bif okDraw ops.toList ms then evDraw call P c nt ops.toList ms n ops.toList 0 [] [] [] [] env h n else none) else evSeq call P c nt ops.toList ops.toList env h n) := by
        cases draw <;> rfl
      rw [this]
      generalize (bif draw then (let ms := masks ops.toList []; bif okDraw ops.toList ms then evDraw call P c nt ops.toList ms n ops.toList 0 [] [] [] [] env h n else none) else evSeq call P c nt ops.toList ops.toList env h n) = r
      cases r <;> rfl
    case seq a b =>
      simp only [evCode]
      show cThen (fCode f b) call P c nt (fCode f a call P c nt env h n) = _
      rw [hthen, ih]
      rfl
    case cond x a b =>
      simp only [evCode]
      show @Option.rec Value (fun _ => RC) none (fun v => @Option.rec Bool (fun _ => RC) none (fun q => @Bool.rec (fun _ => RC) (fCode f b call P c nt env h n) (fCode f a call P c nt env h n) q) (boolOf v)) (fv x env) = _
      rw [fv_eq, ih, ih]
      cases opv env x with
      | none => rfl
      | some v =>
        dsimp only
        cases v <;> first | rfl | skip
        rename_i q
        cases q <;> rfl
    case block id a =>
      simp only [evCode]
      show cOut id (fCode f a call P c nt env h n) = _
      rw [ih]
      generalize evCode call P c nt f a env h n = r
      cases r with
      | none => rfl
      | some q =>
        obtain ⟨e, env1, h1, n1⟩ := q
        cases e with
        | normal => rfl
        | exit i =>
          show @Bool.rec (fun _ => RC) (some (.exit i, env1, h1, n1)) (some (.normal, env1, h1, n1)) (Nat.beq i id) = _
          dsimp only
          cases Nat.beq i id <;> rfl
        | ret => rfl
    case loop a =>
      simp only [evCode]
      show cThen (fCode f (.loop a)) call P c nt (fCode f a call P c nt env h n) = _
      rw [hthen, ih]
      rfl
    case scope a =>
      simp only [evCode]
      exact ih a env h n

/-! ### Calls -/
def fOut (l : List ResultVar) (P : Program) (c : Ctx) (env : Env) (h : Mem) (n : Nat) : R :=
  match resE P c env h l with
  | some [v] => some (v, h, n)
  | some vs => some (.tuple vs.toArray, h, n)
  | none => none
def fFin (l : List ResultVar) (P : Program) (c : Ctx) : RC → R :=
  @Option.rec (AExit × Env × Mem × Nat) (fun _ => R) none (fun r => @Prod.rec AExit (Env × Mem × Nat) (fun _ => R) (fun e q => @Prod.rec Env (Mem × Nat) (fun _ => R) (fun env1 q => @Prod.rec Mem Nat (fun _ => R) (fun h1 n1 =>
    @AExit.rec (fun _ => R) (fOut l P c env1 h1 n1) (fun _ => none) (fOut l P c env1 h1 n1) e) q) q) r)
/-- a function's body, slots and results -/
def fBody (P : Program) (g : FuncId) : Option (Code × Nat × List ResultVar) :=
  match P.funcs[g]? with
  | none => none
  | some fn => match fn.body with
    | none => none
    | some code => some (code, fn.ntmps, fn.results.toList)
def fRun (P : Program) (call : CallT) (c : Ctx) (args : List Value) (h : Mem) (n : Nat) : Option (Code × Nat × List ResultVar) → R :=
  @Option.rec (Code × Nat × List ResultVar) (fun _ => R) none (fun b => @Prod.rec Code (Nat × List ResultVar) (fun _ => R) (fun code q => @Prod.rec Nat (List ResultVar) (fun _ => R) (fun nt l => @Bool.rec (fun _ => R) none (fFin l P c (fCode 100000 code call P c nt (argEnv args 0 .leaf) h n)) (Nat.ble args.length nt && Nat.ble nt 1000000)) q) b)
def fCall (con : CallT) (P : Program) : Nat → CallT :=
  @Nat.rec (fun _ => CallT) (fun _ _ _ _ _ => none) (fun _ ih c g args h n => @Option.rec (Value × Mem × Nat) (fun _ => R) (fRun P ih c args h n (fBody P g)) some (con c g args h n))
theorem fCall_eq (con : CallT) (P : Program) : ∀ f, fCall con P f = evCall con P f
  | 0 => by funext c g args h n; rw [evCall]; rfl
  | f + 1 => by
    funext c g args h n
    show @Option.rec (Value × Mem × Nat) (fun _ => R) (fRun P (fCall con P f) c args h n (fBody P g)) some (con c g args h n) = _
    rw [evCall, fCall_eq con P f]
    cases con c g args h n with
    | some r => rfl
    | none =>
      dsimp only
      unfold fBody
      cases P.funcs[g]? with
      | none => rfl
      | some fn =>
        dsimp only
        cases fn.body with
        | none => rfl
        | some code =>
          dsimp only
          show @Bool.rec (fun _ => R) none (fFin fn.results.toList P c (fCode 100000 code (evCall con P f) P c fn.ntmps (argEnv args 0 .leaf) h n)) (Nat.ble args.length fn.ntmps && Nat.ble fn.ntmps 1000000) = _
          rw [fCode_eq]
          cases (Nat.ble args.length fn.ntmps && Nat.ble fn.ntmps 1000000) with
          | false => rfl
          | true =>
            dsimp only [cond_true]
            generalize evCode (evCall con P f) P c fn.ntmps 100000 code (argEnv args 0 .leaf) h n = r
            cases r with
            | none => rfl
            | some q =>
              obtain ⟨e, env1, h1, n1⟩ := q
              cases e <;> rfl
end
end Go.Proofs.YtpbnpbmiijgeiaaGreatDoor.Ev
