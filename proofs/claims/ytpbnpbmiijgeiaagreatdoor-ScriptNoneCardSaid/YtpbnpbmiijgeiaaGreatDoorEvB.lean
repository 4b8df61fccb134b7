/- An evaluator of the program's code, second part: the evaluator itself. No condition. -/
import Derived.Test.YtpbnpbmiijgeiaaGreatDoorEvA
namespace Go.Proofs.YtpbnpbmiijgeiaaGreatDoor.Ev
open Go Go.RowKit
noncomputable section

abbrev Mem := Tri AObj
abbrev Env := Tri Value

/-- names below lo may not be written; the names in ban may not be looked at -/
structure Ctx where
  lo : Nat
  ban : List (Nat × Nat)

def inBan : List (Nat × Nat) → Nat → Bool
  | [], _ => false
  | (i, j) :: r, b => bif Nat.ble i b then (bif Nat.ble (b + 1) j then true else inBan r b) else inBan r b

def look (c : Ctx) (h : Mem) (b : Nat) : Option AObj := bif inBan c.ban b then none else h.find b
/-- may b be written, where the names below n are taken? -/
def LIM : Nat := 4294967290
def may (c : Ctx) (n b : Nat) : Bool := Nat.ble c.lo b && (Nat.ble (b + 1) n && (Nat.ble b LIM && !(inBan c.ban b)))
def hput (h : Mem) (b : Nat) (o : Option AObj) : Mem := h.put 32 b o
def aNew (h : Mem) (n : Nat) (o : AObj) : Option (Mem × Nat) := bif Nat.ble n LIM then some (hput h n (some o), n + 1) else none

abbrev R := Option (Value × Mem × Nat)
abbrev CallT := Ctx → FuncId → List Value → Mem → Nat → R

/-- what asks nothing but the program -/
def pureRun {α : Type} (P : Program) : Sem α → Option α
  | .pure a => some a
  | .program k => pureRun P (k P)
  | _ => none

def pureV (P : Program) (s : Sem Value) : Option Value :=
  match pureRun P s with
  | some v => bif atom 3 v then some v else none
  | none => none

def opv (env : Env) : Operand → Option Value
  | .tmp t => some ((env.find t).getD undef)
  | .const v => bif atom 3 v then some v else none
  | .func f => some (.func (.func f) #[] #[])
  | .global g => bif Nat.ble (g + 1) GLIM then some (.pointer (some ⟨g, 0, none⟩)) else none

def opvs (env : Env) : List Operand → Option (List Value)
  | [] => some []
  | x :: r => match opv env x, opvs env r with
    | some v, some vs => some (v :: vs)
    | _, _ => none

def isAggT (P : Program) (t : TypeId) : Option Bool :=
  match P.underlying t with
  | some (.struct _) => some true
  | some (.array _ _) => some true
  | some _ => some false
  | none => none
def sizeT (P : Program) (t : TypeId) : Option Nat := (P.info? t).map (·.size)
def zeroT (P : Program) (t : TypeId) : Option Value :=
  match (P.info? t).bind (·.zero) with
  | some v => bif atom 3 v then some v else none
  | none => none

def cellsAt (c : Ctx) (h : Mem) (b : Nat) : Option (List Value) :=
  match look c h b with
  | some (.cells cs _) => some cs
  | some (.ro cs) => some cs
  | _ => none
/-- n cells from o on -/
def piece (cs : List Value) (o n : Nat) : Option (List Value) := let p := (cs.drop o).take n; bif Nat.beq p.length n then some p else none

def oneC : Value → Bool
  | .agg _ | .tuple _ => false
  | _ => true

def splice : List Value → Nat → List Value → List Value
  | cs, 0, [] => cs
  | _ :: cs, 0, x :: xs => x :: splice cs 0 xs
  | c :: cs, o + 1, xs => c :: splice cs o xs
  | [], _, _ => []

def aWrite (c : Ctx) (h : Mem) (n b o : Nat) (xs : List Value) : Option Mem :=
  match look c h b with
  | some (.cells cs link) =>
    bif may c n b && (Nat.ble (o + xs.length) cs.length && xs.all oneC) then
      match link with
      | none => some (hput h b (some (.cells (splice cs o xs) none)))
      | some l => bif may c n l && !(Nat.beq l b) then some (hput (hput h l none) b (some (.cells (splice cs o xs) none))) else none
    else none
  | _ => none

def aLoad (P : Program) (c : Ctx) (h : Mem) (t : TypeId) : Value → Option Value
  | .pointer (some ⟨b, o, none⟩) =>
    match cellsAt c h b, isAggT P t with
    | some cs, some true => match sizeT P t with
      | some s => (piece cs o s).map fun p => .agg p.toArray
      | none => none
    | some cs, some false => cs[o]?
    | _, _ => none
  | _ => none

def aStore (P : Program) (c : Ctx) (h : Mem) (n : Nat) (t : TypeId) (v x : Value) : Option Mem :=
  match v, sizeT P t with
  | .pointer (some ⟨b, o, none⟩), some s => bif Nat.beq x.cells.size s then aWrite c h n b o x.cells.toList else none
  | _, _ => none

def fieldsT (P : Program) (t : TypeId) : Option (Array Field) :=
  match P.underlying t with
  | some (.struct fs) => some fs
  | _ => none

/-- the parts of a struct or of an array: where, how many cells -/
def aPlace (P : Program) (t : TypeId) (i : Nat) : Option (Nat × Nat) :=
  match P.underlying t with
  | some (.struct fs) => match fs[i]? with
    | some f => (sizeT P f.type).map fun s => (f.offset, s)
    | none => none
  | some (.array _ e) => (sizeT P e).map fun s => (i * s, s)
  | _ => none

def aFill (place : Nat → Option (Nat × Nat)) : List Value → List (Nat × Value) → Option (List Value)
  | cs, [] => some cs
  | cs, (i, v) :: rest =>
    match place i with
    | none => none
    | some (off, size) => bif Nat.beq v.cells.size size && Nat.ble (off + size) cs.length then aFill place (splice cs off v.cells.toList) rest else none

def aParts (env : Env) : List (Nat × Operand) → Option (List (Nat × Value))
  | [] => some []
  | (i, x) :: r => match opv env x, aParts env r with
    | some v, some vs => some ((i, v) :: vs)
    | _, _ => none

def natOf : Value → Option Nat
  | .int _ (.ofNat n) => some n
  | _ => none

/-- a part of a slice; s: cells of an element -/
def aSlice (s : Nat) (v : Value) (lo hi mx : Option Value) : Option Value :=
  match v with
  | .slice (some ⟨b, o, none⟩) len cap =>
    let l? := match lo with | none => some 0 | some x => natOf x
    let h? := match hi with | none => some len | some x => natOf x
    match l?, h? with
    | some l, some h =>
      let u := cap / OPEN
      let c := cap % OPEN
      match mx with
      | none =>
        bif Nat.ble l h && Nat.ble h c then
          bif Nat.beq u 0 then some (.slice (some ⟨b, bif Nat.beq c l then o else o + l * s, none⟩) (h - l) (c - l))
          else bif Nat.beq u s then some (.slice (some ⟨b, o + l * s, none⟩) (h - l) (OPEN * u + (c - l))) else none
        else none
      | some x =>
        match natOf x with
        | some m => bif hi.isSome && (Nat.ble l h && (Nat.ble h m && Nat.ble m c)) then some (.slice (some ⟨b, bif Nat.beq m l then o else o + l * s, none⟩) (h - l) (m - l)) else none
        | none => none
    | _, _ => none
  | .slice none 0 0 =>
    let l? := match lo with | none => some 0 | some x => natOf x
    let h? := match hi with | none => some 0 | some x => natOf x
    match l?, h?, mx with
    | some 0, some 0, none => some (.slice none 0 0)
    | _, _, _ => none
  | _ => none

/-- a part of an array of k elements of s cells at an address -/
def aSliceArr (k s : Nat) (v : Value) (lo hi mx : Option Value) : Option Value :=
  match v with
  | .pointer (some ⟨b, o, none⟩) => bif Nat.ble (k + 1) OPEN then aSlice s (.slice (some ⟨b, o, none⟩) k k) lo hi mx else none
  | _ => none

def opt (env : Env) : Option Operand → Option (Option Value)
  | none => some none
  | some x => (opv env x).map some

def bytesV (s : ByteArray) : List Value := s.data.toList.map fun b => .int .u8 b.toNat
def strOf : List Value → Option (List UInt8)
  | [] => some []
  | .int .u8 n :: r => (strOf r).map fun l => UInt8.ofNat n.toNat :: l
  | _ => none

/-- how many elements, and their cells: of what is appended or copied -/
def newsOf (c : Ctx) (h : Mem) (s : Nat) : Value → Option (Nat × List Value)
  | .slice none l _ => bif Nat.beq l 0 then some (0, []) else none
  | .slice (some ⟨b, o, none⟩) m _ => bif Nat.beq m 0 then some (0, []) else
    match cellsAt c h b with
    | some cs => (piece cs o (m * s)).map fun p => (m, p)
    | none => none
  | .string b => bif Nat.beq s 1 then some (b.size, bytesV b) else none
  | _ => none

def BIG : Nat := 4294967296
def aGrow (P : Program) (h : Mem) (n e s need : Nat) (cs : List Value) : R :=
  match P.info? e, zeroT P e with
  | some i, some z =>
    bif Nat.ble (need * (i.bytes + 1)) BIG && (Nat.beq z.cells.size s && (Nat.ble 1 s && Nat.ble 1 i.bytes)) then (aNew h n (.cells cs none)).map fun (h, n') => (.slice (some ⟨n, 0, none⟩) need (OPEN * s + need), h, n') else none
  | _, _ => none

def aAppend (P : Program) (c : Ctx) (h : Mem) (n e s : Nat) (v x : Value) : R :=
  match newsOf c h s x with
  | none => none
  | some (m, news) =>
    bif Nat.beq m 0 then (match v with | .slice _ _ _ => some (v, h, n) | _ => none) else
    match v with
    | .slice none len cap => bif Nat.beq len 0 && Nat.beq cap 0 then aGrow P h n e s m news else none
    | .slice (some ⟨b, o, none⟩) len cap =>
      let u := cap / OPEN
      let k := cap % OPEN
      bif Nat.ble (len + m) k then
        (bif Nat.beq u 0 || Nat.beq u s then (aWrite c h n b (o + len * s) news).map fun h => (.slice (some ⟨b, o, none⟩) (len + m) cap, h, n) else none)
      else
        match (bif Nat.beq len 0 then some [] else (cellsAt c h b).bind fun cs => piece cs o (len * s)) with
        | none => none
        | some old =>
          bif Nat.beq u 0 then aGrow P h n e s (len + m) (old ++ news) else
          bif Nat.beq u s then
            match look c h b with
            | some (.cells cs link) =>
              bif may c n b then
                match P.info? e, zeroT P e with
                | some i, some z =>
                  bif Nat.ble ((len + m) * (i.bytes + 1)) BIG && (Nat.beq z.cells.size s && (Nat.ble 1 i.bytes && (Nat.ble n LIM && news.all oneC))) then
                    let h1? := match link with
                      | none => some h
                      | some l => bif may c n l && !(Nat.beq l b) then some (hput h l none) else none
                    match h1? with
                    | none => none
                    | some h1 => some (.slice (some ⟨n, 0, none⟩) (len + m) (OPEN * s + (len + m)), hput (hput h1 b (some (.cells (cs.take (o + len * s)) (some n)))) n (some (.cells (old ++ news) (some b))), n + 1)
                  else none
                | _, _ => none
              else none
            | _ => none
          else none
    | _ => none

/-- append(s, make([]T, m)...) where it must grow -/
def aAppendZ (P : Program) (c : Ctx) (h : Mem) (n e s : Nat) (v x : Value) : R :=
  match x, zeroT P e with
  | .int .i64 (.ofNat m), some z =>
    bif Nat.beq m 0 || !(Nat.beq z.cells.size s) then none else
    match v with
    | .slice none len cap => bif Nat.beq len 0 && Nat.beq cap 0 then aGrow P h n e s m (List.replicate m z.cells.toList).flatten else none
    | .slice (some ⟨b, o, none⟩) len cap =>
      bif Nat.beq (cap / OPEN) 0 && Nat.ble (cap + 1) (len + m) then
        match (bif Nat.beq len 0 then some [] else (cellsAt c h b).bind fun cs => piece cs o (len * s)) with
        | some old => aGrow P h n e s (len + m) (old ++ (List.replicate m z.cells.toList).flatten)
        | none => none
      else none
    | _ => none
  | _, _ => none

/-- maps whose keys are numbers, texts or truth values -/
def keyKind : TypeDesc → Bool
  | .int _ | .string | .bool => true
  | _ => false
def sameK : Value → Value → Option Bool
  | .int k a, .int k' b => bif decide (k = k') then some (a == b) else none
  | .string a, .string b => some (a == b)
  | .bool a, .bool b => some (a == b)
  | _, _ => none
def findK (k : Value) : List (Value × Value) → Nat → Option (Option (Nat × Value))
  | [], _ => some none
  | (k', v) :: r, i => match sameK k k' with
    | some true => some (some (i, v))
    | some false => findK k r (i + 1)
    | none => none

def entriesAt (c : Ctx) (h : Mem) (b : Nat) : Option (List (Value × Value)) :=
  match look c h b with
  | some (.map es) => some es
  | _ => none

/-- does a key's value fit the kind of keys? -/
def fits : TypeDesc → Value → Bool
  | .int _, .int _ _ | .string, .string _ | .bool, .bool _ => true
  | _, _ => false
def keyFits (P : Program) (t : TypeId) (k : Value) : Bool :=
  match P.underlying t with
  | some (.map kt _) => (match P.underlying kt with | some d => fits d k | none => false)
  | _ => false
def mapT (P : Program) (t : TypeId) : Option (TypeId × TypeId) :=
  match P.underlying t with
  | some (.map k e) => (match P.underlying k with | some d => bif keyKind d then some (k, e) else none | none => none)
  | _ => none

def aLookup (P : Program) (c : Ctx) (h : Mem) (t : TypeId) (m k : Value) (ok : Bool) : Option Value :=
  match mapT P t with
  | none => none
  | some (_, e) =>
    let es? := bif keyFits P t k then (match m with | .map none => some [] | .map (some b) => entriesAt c h b | _ => none) else none
    match es? with
    | none => none
    | some es => match findK k es 0 with
      | none => none
      | some (some (_, v)) => some (bif ok then .tuple #[v, .bool true] else v)
      | some none => (zeroT P e).map fun z => bif ok then .tuple #[z, .bool false] else z

def setNth : List (Value × Value) → Nat → Value → List (Value × Value)
  | (k, _) :: r, 0, v => (k, v) :: r
  | x :: r, i + 1, v => x :: setNth r i v
  | [], _, _ => []

def aUpdate (P : Program) (c : Ctx) (h : Mem) (n : Nat) (t : TypeId) (m k v : Value) : Option Mem :=
  match mapT P t, m with
  | some _, .map (some b) => match entriesAt c h b with
    | none => none
    | some es =>
      bif may c n b && keyFits P t k then
        match findK k es 0 with
        | none => none
        | some (some (i, _)) => some (hput h b (some (.map (setNth es i v))))
        | some none => some (hput h b (some (.map (es ++ [(k, v)]))))
      else none
  | _, _ => none

def aDelete (P : Program) (c : Ctx) (h : Mem) (n : Nat) (t : TypeId) (m k : Value) : Option Mem :=
  match mapT P t, m with
  | some _, .map (some b) => match entriesAt c h b with
    | none => none
    | some es =>
      bif may c n b && keyFits P t k then
        match findK k es 0 with
        | none => none
        | some (some (i, _)) => some (hput h b (some (.map (es.eraseIdx i))))
        | some none => some (hput h b (some (.map es)))
      else none
  | _, _ => none

end
end Go.Proofs.YtpbnpbmiijgeiaaGreatDoor.Ev
