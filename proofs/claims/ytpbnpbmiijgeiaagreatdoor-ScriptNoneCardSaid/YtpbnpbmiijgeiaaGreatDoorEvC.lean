/- An evaluator of the program's code, third part: operations, regions, code, calls. No condition. -/
import Derived.Test.YtpbnpbmiijgeiaaGreatDoorEvB
namespace Go.Proofs.YtpbnpbmiijgeiaaGreatDoor.Ev
open Go Go.RowKit
noncomputable section

/-- comparisons with nil, and of one address with itself -/
def aEqNil (x y : Value) : Option Bool :=
  match x, y with
  | .pointer none, .pointer none => some true
  | .pointer none, .pointer (some _) => some false
  | .pointer (some _), .pointer none => some false
  | .slice none _ _, .slice none _ _ => some true
  | .slice (some _) _ _, .slice none _ _ => some false
  | .slice none _ _, .slice (some _) _ _ => some false
  | .map none, .map none => some true
  | .map (some _), .map none => some false
  | .map none, .map (some _) => some false
  | .nilFunc, .nilFunc => some true
  | .func _ _ _, .nilFunc => some false
  | .nilFunc, .func _ _ _ => some false
  | .iface _ _, .nilIface => some false
  | .nilIface, .iface _ _ => some false
  | _, _ => none

/-- may the comparison be made at this type? -/
def eqKind (P : Program) (t : TypeId) (x y : Value) : Bool :=
  match P.underlying t, x, y with
  | some (.pointer _), .pointer _, .pointer _ => true
  | some (.slice _), .slice _ _ _, .slice _ _ _ => true
  | some (.map _ _), .map _, .map _ => true
  | some (.func _ _ _), .nilFunc, .nilFunc => true
  | some (.func _ _ _), .func _ _ _, .nilFunc => true
  | some (.func _ _ _), .nilFunc, .func _ _ _ => true
  | some (.interface _), .iface _ _, .nilIface => true
  | some (.interface _), .nilIface, .iface _ _ => true
  | _, _, _ => false

def aBin (P : Program) (op : BinOp) (t : TypeId) (x y : Operand) (a b : Value) : Option Value :=
  bif atom 3 a && atom 3 b then pureV P (do eqGuard op t x y a b; binOp op t a b)
  else match op with
    | .eql => bif eqKind P t a b then (aEqNil a b).map fun r => .bool r else none
    | .neq => bif eqKind P t a b then (aEqNil a b).map fun r => .bool (!r) else none
    | _ => none

def aField (P : Program) (t : TypeId) (x : Value) (f : Nat) : Option Value :=
  match fieldsT P t, x with
  | some fs, .agg cs => match fs[f]? with
    | some fd => match isAggT P fd.type, sizeT P fd.type with
      | some true, some s => bif Nat.ble (fd.offset + s) cs.size then some (.agg ((cs.toList.drop fd.offset).take s).toArray) else none
      | some false, _ => cs.toList[fd.offset]?
      | _, _ => none
    | none => none
  | _, _ => none

def aIndex (P : Program) (t : TypeId) (x i : Value) : Option Value :=
  match P.underlying t, x, natOf i with
  | some (.array len e), .agg cs, some k =>
    bif Nat.ble (k + 1) len then
      match isAggT P e, sizeT P e with
      | some true, some s => bif Nat.ble (k * s + s) cs.size then some (.agg ((cs.toList.drop (k * s)).take s).toArray) else none
      | some false, some s => cs.toList[k * s]?
      | _, _ => none
    else none
  | _, _, _ => none

def aIndexAddr (P : Program) (t : TypeId) (x i : Value) : Option Value :=
  match P.underlying t, x, natOf i with
  | some (.array len e), .pointer (some ⟨b, o, none⟩), some k =>
    bif Nat.ble (k + 1) len then (sizeT P e).map fun s => .pointer (some ⟨b, o + k * s, none⟩) else none
  | some (.slice e), .slice (some ⟨b, o, none⟩) len _, some k =>
    bif Nat.ble (k + 1) len then (sizeT P e).map fun s => .pointer (some ⟨b, o + k * s, none⟩) else none
  | _, _, _ => none

def aFieldAddr (P : Program) (t : TypeId) (x : Value) (f : Nat) : Option Value :=
  match fieldsT P t, x with
  | some fs, .pointer (some ⟨b, o, none⟩) => match fs[f]? with
    | some fd => bif (match sizeT P fd.type with | some s => Nat.ble 1 s | none => false) then some (.pointer (some ⟨b, o + fd.offset, none⟩)) else none
    | none => none
  | _, _ => none

def aSliceAt (P : Program) (t : TypeId) (x : Value) (lo hi mx : Option Value) : Option Value :=
  match P.underlying t with
  | some (.array n e) => match sizeT P e with
    | some s => aSliceArr n s x lo hi mx
    | none => none
  | some (.slice e) => match sizeT P e with
    | some s => aSlice s x lo hi mx
    | none => none
  | some (.pointer arr) => match P.underlying arr with
    | some (.array n e) => match sizeT P e with
      | some s => aSliceArr n s x lo hi mx
      | none => none
    | _ => none
  | _ => none

def aLen (P : Program) (c : Ctx) (h : Mem) (t : TypeId) (x : Value) : Option Value :=
  match P.underlying t, x with
  | some .string, .string s => some (goInt s.size)
  | some (.array n _), _ => some (goInt n)
  | some (.slice _), .slice _ n _ => some (goInt n)
  | some (.map _ _), .map none => some (goInt 0)
  | some (.map _ _), .map (some b) => (entriesAt c h b).map fun es => goInt es.length
  | _, _ => none
def aCap (P : Program) (t : TypeId) (x : Value) : Option Value :=
  match P.underlying t, x with
  | some (.array n _), _ => some (goInt n)
  | some (.slice _), .slice _ _ n => bif Nat.ble (n + 1) OPEN then some (goInt n) else none
  | _, _ => none

def sliceT (P : Program) (t : TypeId) : Option TypeId :=
  match P.underlying t with
  | some (.slice e) => some e
  | _ => none

def aCopy (P : Program) (c : Ctx) (h : Mem) (n : Nat) (t : TypeId) (d x : Value) : R :=
  match sliceT P t with
  | none => none
  | some e => match sizeT P e with
    | none => none
    | some s =>
      let len? := match x with | .slice _ k _ => some k | .string b => some b.size | _ => none
      match d, len? with
      | .slice none l _, some _ => bif Nat.beq l 0 then some (goInt 0, h, n) else none
      | .slice (some ⟨b, o, none⟩) l _, some k =>
        let m := Nat.min k l
        bif Nat.beq m 0 then some (goInt 0, h, n) else
        let cells? := match x with
          | .slice (some ⟨b', o', none⟩) _ _ => (cellsAt c h b').bind fun cs => piece cs o' (m * s)
          | .string bs => bif Nat.beq s 1 then some ((bytesV bs).take m) else none
          | _ => none
        match cells? with
        | none => none
        | some cells => (aWrite c h n b o cells).map fun h => (goInt m, h, n)
      | _, _ => none

def aClear (P : Program) (c : Ctx) (h : Mem) (n : Nat) (t : TypeId) (x : Value) : R :=
  match sliceT P t with
  | none => none
  | some e => match x with
    | .slice none l _ => some (.tuple #[], h, n)
    | .slice (some ⟨b, o, none⟩) l _ =>
      bif Nat.beq l 0 then some (.tuple #[], h, n) else
      match zeroT P e, sizeT P e with
      | some z, some s => bif Nat.beq z.cells.size s then (aWrite c h n b o (List.replicate l z.cells.toList).flatten).map fun h => (.tuple #[], h, n) else none
      | _, _ => none
    | _ => none

/-- texts out of bytes, bytes out of texts -/
def aConvert (P : Program) (c : Ctx) (h : Mem) (n : Nat) (src dst : TypeId) (x : Value) : R :=
  match P.underlying src, P.underlying dst, x with
  | some (.slice e), some .string, .slice a len _ =>
    match P.underlying e with
    | some (.int .u8) =>
      match a with
      | none => some (.string .empty, h, n)
      | some ⟨b, o, none⟩ => bif Nat.beq len 0 then some (.string .empty, h, n) else
        match (cellsAt c h b).bind fun cs => piece cs o len with
        | some p => (strOf p).map fun l => (.string ⟨l.toArray⟩, h, n)
        | none => none
      | _ => none
    | _ => none
  | some .string, some .string, .string s => some (.string s, h, n)
  | some (.slice e), some (.slice _), .slice (some ⟨b, o, none⟩) l k =>
    bif Nat.beq src dst && Nat.ble 1 l then (match P.underlying e, look c h b with
      | some (.int .u8), some (.cells (_ :: _) _) => some (.slice (some ⟨b, o, none⟩) l k, h, n)
      | _, _ => none) else none
  | some .string, some (.slice e), .string s =>
    match P.underlying e with
    | some (.int .u8) => bif Nat.ble (s.size + 1) BIG then (aNew h n (.cells (bytesV s) none)).map fun (h, n') => (.slice (some ⟨n, 0, none⟩) s.size (OPEN + s.size), h, n') else none
    | _ => none
  | _, _, _ => none

def keepN {α : Type} (h : Mem) (n : Nat) : Option α → Option (α × Mem × Nat)
  | some v => some (v, h, n)
  | none => none
def keepV (n : Nat) : Option Mem → R
  | some h => some (undef, h, n)
  | none => none

def aMakeSlice (P : Program) (h : Mem) (n : Nat) (t : TypeId) (l k : Value) : R :=
  match sliceT P t with
  | none => none
  | some e => match P.info? e, zeroT P e, natOf l, natOf k with
    | some i, some z, some l, some k =>
      bif Nat.ble l k && (Nat.ble (k * (i.bytes + 1)) BIG && Nat.beq z.cells.size i.size) then
        (aNew h n (.cells (List.replicate k z.cells.toList).flatten none)).map fun (h, n') => (.slice (some ⟨n, 0, none⟩) l k, h, n')
      else none
    | _, _, _, _ => none

def aBuildSlice (P : Program) (h : Mem) (n : Nat) (t : TypeId) (len : Nat) (parts : List (Nat × Value)) : R :=
  match sliceT P t with
  | none => none
  | some e => match sizeT P e, zeroT P e with
    | some s, some z =>
      bif Nat.ble (len * s) 65536 && (Nat.beq z.cells.size s && Nat.ble 1 s) then
        match aFill (fun i => some (i * s, s)) (List.replicate len z.cells.toList).flatten parts with
        | some cs => (aNew h n (.cells cs none)).map fun (h, n') => (.slice (some ⟨n, 0, none⟩) len len, h, n')
        | none => none
      else none
    | _, _ => none

def partsOk (P : Program) (t : TypeId) : Bool :=
  match P.underlying t with
  | some (.struct fs) => fs.toList.all fun f => (sizeT P f.type).isSome
  | some (.array _ e) => (sizeT P e).isSome
  | _ => false
def aBuild (P : Program) (t : TypeId) (parts : List (Nat × Value)) : Option Value :=
  match zeroT P t, partsOk P t with
  | some z, true => (aFill (aPlace P t) z.cells.toList parts).map fun cs => .agg cs.toArray
  | _, _ => none

def aBuiltin (P : Program) (c : Ctx) (h : Mem) (n : Nat) (b : Builtin) (ts : Array TypeId) (args : List Value) : R :=
  match b, ts[0]?, args with
  | .len, some t, [x] => keepN h n (aLen P c h t x)
  | .cap, some t, [x] => keepN h n (aCap P t x)
  | .append, some t, [s, x] => match sliceT P t, ts[1]? with
    | some e, some t1 => match sizeT P e, P.underlying t1 with
      | some k, some (.int _) => aAppendZ P c h n e k s x
      | some k, some _ => aAppend P c h n e k s x
      | _, _ => none
    | _, _ => none
  | .copy, some t, [d, x] => aCopy P c h n t d x
  | .clear, some t, [x] => aClear P c h n t x
  | .delete, some t, [m, k] => match aDelete P c h n t m k with
    | some h => some (.tuple #[], h, n)
    | none => none
  | .max, _, x :: r => bif (x :: r).all (atom 0) then keepN h n (pureV P (Builtin.max_ #[] 0 (x :: r).toArray)) else none
  | .min, _, x :: r => bif (x :: r).all (atom 0) then keepN h n (pureV P (Builtin.min_ #[] 0 (x :: r).toArray)) else none
  | _, _, _ => none

def enters (P : Program) (f : FuncId) : Bool :=
  match P.funcs[f]? with
  | some fn => fn.body.isSome && !(fn.name == "runtime.NumGoroutine")
  | none => false

def aCall (call : CallT) (P : Program) (c : Ctx) (env : Env) (h : Mem) (n : Nat) (k : Call) : R :=
  match opvs env k.args.toList with
  | none => none
  | some args =>
    match k.callee with
    | .builtin b => aBuiltin P c h n b k.argTypes args
    | .invoke _ _ => none
    | .value f =>
      match opv env f with
      | some (.func (.func f) first captured) => bif enters P f then call c f (first.toList ++ args ++ captured.toList) h n else none
      | _ => none

def evOp (call : CallT) (P : Program) (c : Ctx) (env : Env) (h : Mem) (n : Nat) (o : Op) : R :=
  match o with
  | .move x | .assign x => keepN h n (opv env x)
  | .pick t a b => match opv env t, opv env a, opv env b with
    | some (.bool q), some a, some b => some (bif q then a else b, h, n)
    | _, _, _ => none
  | .alloc e => match zeroT P e with
    | some z => (aNew h n (.cells z.cells.toList none)).map fun (h, n') => (.pointer (some ⟨n, 0, none⟩), h, n')
    | none => none
  | .box _ x => match opv env x with
    | some v => (aNew h n (.cells v.cells.toList none)).map fun (h, n') => (.pointer (some ⟨n, 0, none⟩), h, n')
    | none => none
  | .build t parts => match aParts env parts.toList with
    | some ps => keepN h n (aBuild P t ps)
    | none => none
  | .buildSlice t len parts => match aParts env parts.toList with
    | some ps => aBuildSlice P h n t len ps
    | none => none
  | .load t x => match opv env x with
    | some v => keepN h n (aLoad P c h t v)
    | none => none
  | .store t x y => match opv env x, opv env y with
    | some v, some u => keepV n (aStore P c h n t v u)
    | _, _ => none
  | .nilCheck x => match opv env x with
    | some (.pointer (some a)) => some (.pointer (some a), h, n)
    | some (.func (.func f) xs ys) => some (.func (.func f) xs ys, h, n)
    | _ => none
  | .binOp op t x y _ => match opv env x, opv env y with
    | some a, some b => keepN h n (aBin P op t x y a b)
    | _, _ => none
  | .unOp op _ x => match opv env x with
    | some a => bif atom 0 a then keepN h n (pureV P (Op.unary op a)) else none
    | none => none
  | .convert s d x => match opv env x with
    | some a => match a with
      | .int _ _ | .float _ _ => keepN h n (pureV P (convert s d a))
      | _ => aConvert P c h n s d a
    | none => none
  | .makeInterface t x => match opv env x with
    | some a => match P.underlying t with
      | some (.interface _) => none
      | some _ => some (.iface t a, h, n)
      | none => none
    | none => none
  | .makeFunc fn xs ys => match opvs env xs.toList, opvs env ys.toList with
    | some xs, some ys => some (.func fn xs.toArray ys.toArray, h, n)
    | _, _ => none
  | .makeMap _ none => (aNew h n (.map [])).map fun (h, n') => (.map (some n), h, n')
  | .makeSlice t l k => match opv env l, opv env k with
    | some l, some k => aMakeSlice P h n t l k
    | _, _ => none
  | .slice t x lo hi mx => match opv env x, opt env lo, opt env hi, opt env mx with
    | some a, some lo, some hi, some mx => match a with
      | .string s => bif lo.all (atom 0) && (hi.all (atom 0) && mx.all (atom 0)) then keepN h n (pureV P (Instr.sliceAt t (.string s) lo hi mx)) else none
      | _ => keepN h n (aSliceAt P t a lo hi mx)
    | _, _, _, _ => none
  | .fieldAddr t x f => match opv env x with
    | some a => keepN h n (aFieldAddr P t a f)
    | none => none
  | .field t x f => match opv env x with
    | some a => keepN h n (aField P t a f)
    | none => none
  | .indexAddr t x i => match opv env x, opv env i with
    | some a, some i => keepN h n (aIndexAddr P t a i)
    | _, _ => none
  | .index t x i => match opv env x, opv env i with
    | some a, some i => match a with
      | .string s => bif atom 0 i then keepN h n (pureV P (Instr.index t (.string s) i)) else none
      | _ => keepN h n (aIndex P t a i)
    | _, _ => none
  | .lookup t x i ok => match opv env x, opv env i with
    | some a, some i => bif atom 0 i then keepN h n (aLookup P c h t a i ok) else none
    | _, _ => none
  | .mapUpdate t m k x => match opv env m, opv env k, opv env x with
    | some m, some k, some v => keepV n (aUpdate P c h n t m k v)
    | _, _, _ => none
  | .insert t m k x => match opv env m, opv env k, opv env x with
    | some m, some k, some v => keepV n (aUpdate P c h n t m k v)
    | _, _, _ => none
  | .extract x i => match opv env x with
    | some (.tuple vs) => keepN h n vs.toList[i]?
    | _ => none
  | .call k => aCall call P c env h n k
  | _ => none

/-- a slot's new value, where there are nt slots -/
def putE (nt : Nat) (env : Env) (d : Option Tmp) (v : Value) : Option Env :=
  match d with
  | none => some env
  | some t => bif Nat.ble (t + 1) nt && Nat.ble nt 1000000 then some (env.put 32 t (some v)) else none

def wantedE (all : List Oper) (env : Env) (o : Oper) : Bool :=
  match o.guard with
  | none => true
  | some (j, want) => match (all[j]?).bind (·.dst) with
    | some t => match (env.find t).getD undef with
      | .bool b => b == want
      | _ => false
    | none => false

/-- one behind the other -/
def evSeq (call : CallT) (P : Program) (c : Ctx) (nt : Nat) (all : List Oper) : List Oper → Env → Mem → Nat → Option (Env × Mem × Nat)
  | [], env, h, n => some (env, h, n)
  | o :: rest, env, h, n =>
    bif wantedE all env o then
      match evOp call P c env h n o.op with
      | none => none
      | some (v, h, n1) => bif Nat.ble n n1 then (match putE nt env o.dst v with
        | none => none
        | some env => evSeq call P c nt all rest env h n1) else none
    else match putE nt env o.dst undef with
      | none => none
      | some env => evSeq call P c nt all rest env h n

/-- what touches no memory -/
def pureO : Op → Bool
  | .move _ | .assign _ | .pick .. | .build .. | .nilCheck _ | .binOp .. | .unOp .. | .makeInterface .. | .makeFunc .. | .slice .. | .fieldAddr .. | .field .. | .indexAddr .. | .index .. | .extract .. => true
  | .convert .. => false
  | _ => false

def bindsE (e : Edge) : Bool := Region.binds .any e

/-- which ones are ahead of each, as bits -/
def maskOf (acc : List Nat) (l : List Edge) : Nat := l.foldl (fun s e => bif bindsE e then s ||| 2 ^ e.on ||| acc.getD e.on 0 else s) 0
def masks : List Oper → List Nat → List Nat
  | [], acc => acc
  | o :: r, acc => masks r (acc ++ [maskOf acc o.after.toList])

def looks (all : List Oper) (o : Oper) : List Tmp :=
  (o.op.operands.toList.filterMap fun | .tmp t => some t | _ => none) ++
  (match o.guard with
   | some (g, _) => ((all[g]?).bind (·.dst)).toList
   | none => [])

/-- is i ahead of k or k ahead of i? -/
def tied (ms : List Nat) (i k : Nat) : Bool := Nat.testBit (ms.getD k 0) i || Nat.testBit (ms.getD i 0) k

def idx (l : List Oper) : List (Oper × Nat) := l.zipIdx
/-- may the region be evaluated in the lexical order? -/
def okDraw (all : List Oper) (ms : List Nat) : Bool :=
  (idx all).all fun (o, k) =>
    (o.after.toList.all fun e => !bindsE e || Nat.ble (e.on + 1) k) && (!(o.op matches .select ..)) &&
    (idx all).all fun (x, i) =>
      Nat.beq i k ||
      (match x.dst with
       | none => true
       | some t => (!(looks all o).contains t || tied ms i k) && (!(o.dst == some t) || tied ms i k))

/-- is k tied to all that touch memory but loads? -/
def isLoad : Op → Bool
  | .load _ _ => true
  | _ => false
def semi (all : List Oper) (ms : List Nat) (k : Nat) : Bool :=
  (idx all).all fun (x, i) => Nat.beq i k || (pureO x.op || (isLoad x.op || tied ms i k))
/-- is k tied to all that touch memory? -/
def alone (all : List Oper) (ms : List Nat) (k : Nat) : Bool :=
  (idx all).all fun (x, i) => Nat.beq i k || (pureO x.op || tied ms i k)

/-- the names that others have made which aren't ahead of k -/
def others (m : Nat) : List (Nat × Nat × Nat) → List (Nat × Nat)
  | [] => []
  | (i, a, b) :: r => bif Nat.testBit m i || Nat.beq a b then others m r else (a, b) :: others m r

def isStore : Op → Bool
  | .store .. => true
  | _ => false
/-- where a store goes, and what it lays -/
def storeAt (env : Env) : Op → Option (Nat × Nat × List Value)
  | .store _ x y => match opv env x, opv env y with
    | some (.pointer (some ⟨b, o, none⟩)), some u => some (b, o, u.cells.toList)
    | _, _ => none
  | _ => none
/-- the block that a load looks at, plus one; 0: another operation -/
def loadAt (env : Env) : Op → Nat
  | .load _ x => match opv env x with
    | some (.pointer (some ⟨b, _, none⟩)) => b + 1
    | _ => 0
  | _ => 0
/-- stores that are apart -/
def apartW (b o l b' o' l' : Nat) : Bool := !(Nat.beq b b') || (Nat.ble (o + l) o' || Nat.ble (o' + l') o)
/-- may the store k go on beside the stores and the others that it isn't tied to? -/
def okStore (m m0 b o l : Nat) (ws : List (Nat × Nat × Nat × Nat)) (qs : List (Nat × Nat)) : Bool :=
  Nat.ble (b + 1) m0 && (ws.all (fun (i, b', o', l') => Nat.testBit m i || apartW b o l b' o' l') && qs.all fun (i, q) => Nat.testBit m i || (!(Nat.beq q 0) && (!(Nat.beq q (b + 1)) && Nat.ble q m0)))
/-- may the load k of a name (q: that name plus one)? -/
def okLoad (m m0 q : Nat) (ss : List Nat) : Bool := !(Nat.beq q 0) && (Nat.ble q m0 || ss.all fun i => Nat.testBit m i)
/-- may the operation k write all that the region has made? -/
def okSemi (m m0 : Nat) (qs : List (Nat × Nat)) : Bool := qs.all fun (i, q) => Nat.testBit m i || (!(Nat.beq q 0) && Nat.ble q m0)
def noLink (c : Ctx) (h : Mem) (b : Nat) : Bool :=
  match look c h b with
  | some (.cells _ none) => true
  | _ => false
/-- the blocks that stores write which aren't ahead -/
def bansW (m : Nat) : List (Nat × Nat × Nat × Nat) → List (Nat × Nat)
  | [] => []
  | (i, b, _, _) :: r => bif Nat.testBit m i then bansW m r else (b, b + 1) :: bansW m r

/-- from which name on operation k may write -/
def loOf (c : Ctx) (all : List Oper) (ms : List Nat) (m0 k n : Nat) : Nat := bif alone all ms k then c.lo else bif semi all ms k then m0 else n
def cxOf (c : Ctx) (all : List Oper) (ms : List Nat) (m0 k n : Nat) (iv : List (Nat × Nat × Nat)) (ws : List (Nat × Nat × Nat × Nat)) : Ctx := ⟨loOf c all ms m0 k n, others (ms.getD k 0) iv ++ (bansW (ms.getD k 0) ws ++ c.ban)⟩

def evDraw (call : CallT) (P : Program) (c : Ctx) (nt : Nat) (all : List Oper) (ms : List Nat) (m0 : Nat) : List Oper → Nat → List (Nat × Nat × Nat) → List (Nat × Nat × Nat × Nat) → List (Nat × Nat) → List Nat → Env → Mem → Nat → Option (Env × Mem × Nat)
  | [], _, _, _, _, _, env, h, n => some (env, h, n)
  | o :: rest, k, iv, ws, qs, ss, env, h, n =>
    bif wantedE all env o then
      bif pureO o.op then
        match evOp call P ⟨0, []⟩ env .leaf 0 o.op with
        | none => none
        | some (v, _, z) => bif Nat.beq z 0 then (match putE nt env o.dst v with
          | none => none
          | some env => evDraw call P c nt all ms m0 rest (k + 1) iv ws qs ss env h n) else none
      else bif isStore o.op && !(alone all ms k) then
        match storeAt env o.op with
        | none => none
        | some (b, off, xs) =>
          bif okStore (ms.getD k 0) m0 b off xs.length ws qs && noLink c h b then
            match evOp call P c env h n o.op with
            | none => none
            | some (v, h, n') => bif Nat.beq n n' then (match putE nt env o.dst v with
              | none => none
              | some env => evDraw call P c nt all ms m0 rest (k + 1) iv ((k, b, off, xs.length) :: ws) qs ss env h n) else none
          else none
      else bif isLoad o.op && !(alone all ms k) then
        bif okLoad (ms.getD k 0) m0 (loadAt env o.op) ss then
          match evOp call P ⟨n, others (ms.getD k 0) iv ++ (bansW (ms.getD k 0) ws ++ c.ban)⟩ env h n o.op with
          | none => none
          | some (v, _, _) => match putE nt env o.dst v with
            | none => none
            | some env' => evDraw call P c nt all ms m0 rest (k + 1) iv ws ((k, loadAt env o.op) :: qs) ss env' h n
        else none
      else bif alone all ms k || (!(semi all ms k) || okSemi (ms.getD k 0) m0 qs) then
        match evOp call P (cxOf c all ms m0 k n iv ws) env h n o.op with
        | none => none
        | some (v, h, n') => bif Nat.ble n n' then (match putE nt env o.dst v with
          | none => none
          | some env' => evDraw call P c nt all ms m0 rest (k + 1) ((k, n, n') :: iv) ws ((k, 0) :: qs) (bif !(alone all ms k) && semi all ms k then k :: ss else ss) env' h n') else none
      else none
    else match putE nt env o.dst undef with
      | none => none
      | some env => evDraw call P c nt all ms m0 rest (k + 1) iv ws qs ss env h n

inductive AExit where
  | normal
  | exit (id : Nat)
  | ret

def evCode (call : CallT) (P : Program) (c : Ctx) (nt : Nat) : Nat → Code → Env → Mem → Nat → Option (AExit × Env × Mem × Nat)
  | 0, _, _, _, _ => none
  | f + 1, code, env, h, n =>
    match code with
    | .skip => some (.normal, env, h, n)
    | .label _ => some (.normal, env, h, n)
    | .region _ ops draw =>
      match (bif draw then (let ms := masks ops.toList []; bif okDraw ops.toList ms then evDraw call P c nt ops.toList ms n ops.toList 0 [] [] [] [] env h n else none) else evSeq call P c nt ops.toList ops.toList env h n) with
      | some (env, h, n) => some (.normal, env, h, n)
      | none => none
    | .seq a b => match evCode call P c nt f a env h n with
      | some (.normal, env, h, n) => evCode call P c nt f b env h n
      | r => r
    | .cond x a b => match opv env x with
      | some (.bool q) => evCode call P c nt f (bif q then a else b) env h n
      | _ => none
    | .block id a => match evCode call P c nt f a env h n with
      | some (.exit i, env, h, n) => bif Nat.beq i id then some (.normal, env, h, n) else some (.exit i, env, h, n)
      | r => r
    | .loop a => match evCode call P c nt f a env h n with
      | some (.normal, env, h, n) => evCode call P c nt f (.loop a) env h n
      | r => r
    | .scope a => evCode call P c nt f a env h n
    | .exit id => some (.exit id, env, h, n)
    | .ret => some (.ret, env, h, n)
    | _ => none

def argEnv : List Value → Nat → Env → Env
  | [], _, e => e
  | v :: r, i, e => argEnv r (i + 1) (e.put 32 i (some v))

def resOne (P : Program) (c : Ctx) (env : Env) (h : Mem) : ResultVar → Option Value
  | .tmp t => some ((env.find t).getD undef)
  | .cell a t => aLoad P c h t ((env.find a).getD undef)
def resE (P : Program) (c : Ctx) (env : Env) (h : Mem) : List ResultVar → Option (List Value)
  | [] => some []
  | x :: r => match resOne P c env h x, resE P c env h r with
    | some v, some vs => some (v :: vs)
    | _, _ => none

/-- contracts of functions on values without addresses -/
abbrev ConT := FuncId → List Value → Option Value
def liftCon (con : ConT) : CallT := fun _ g args h n =>
  match (bif args.all (atom 3) then con g args else none) with
  | some v => some (v, h, n)
  | none => none
/-- one contract, or else another -/
def orCall (a b : CallT) : CallT := fun c g args h n =>
  match a c g args h n with
  | some r => some r
  | none => b c g args h n

def evCall (con : CallT) (P : Program) : Nat → CallT
  | 0, _, _, _, _, _ => none
  | f + 1, c, g, args, h, n =>
    match con c g args h n with
    | some r => some r
    | none =>
    match P.funcs[g]? with
    | none => none
    | some fn =>
      match fn.body with
      | none => none
      | some code =>
        bif Nat.ble args.length fn.ntmps && Nat.ble fn.ntmps 1000000 then
          match evCode (evCall con P f) P c fn.ntmps 100000 code (argEnv args 0 .leaf) h n with
          | some (.normal, env, h, n) | some (.ret, env, h, n) =>
            match resE P c env h fn.results.toList with
            | some [v] => some (v, h, n)
            | some vs => some (.tuple vs.toArray, h, n)
            | none => none
          | _ => none
        else none

end
end Go.Proofs.YtpbnpbmiijgeiaaGreatDoor.Ev
