/- The program's operations read as the evaluator's. -/
import Derived.Test.YtfhkfahgimibaaaEval
namespace Go.QL

def isRowTy : TypeDesc → Bool
  | .struct _ | .array _ _ => true
  | _ => false

def szOf (P : Program) (t : TypeId) : Option Nat := (P.info? t).map (·.size)

def zeroOf (P : Program) (t : TypeId) : Option (List Value) :=
  match P.info? t with
  | some i => match i.zero with
    | some z => if z.cells.all (·.oneCell') then some z.cells.toList else none
    | none => none
  | none => none

def partsOf (P : Program) (t : TypeId) (ps : List (Nat × Operand)) : Option (List (Nat × Nat × Operand)) :=
  match P.underlying t with
  | some (.struct fs) => ps.mapM fun (i, x) => match fs[i]? with
    | some f => (szOf P f.type).map fun n => (f.offset, n, x)
    | none => none
  | some (.array _ e) => (szOf P e).map fun n => ps.map fun p => (p.1 * n, n, p.2)
  | _ => none

def fieldsSized (P : Program) (t : TypeId) : Bool :=
  match P.underlying t with
  | some (.struct fs) => fs.all fun f => (P.info? f.type).isSome
  | some (.array _ _) => true
  | _ => false

/-- Structs of numbers, truth values and strings, without gaps: the kinds of their cells. -/
def flatF (F : TypeId → Option (List Nat)) (Z : TypeId → Option Nat) : List Field → Nat → Option (List Nat)
  | [], _ => some []
  | f :: fs, off => match F f.type, Z f.type with
    | some ks, some m => if f.name ≠ "_" ∧ f.offset = off ∧ m = ks.length then (flatF F Z fs (off + m)).map (ks ++ ·) else none
    | _, _ => none

def flatT (P : Program) : Nat → TypeId → Option (List Nat)
  | 0, _ => none
  | d + 1, t => match P.underlying t with
    | some (.int _) => some [0]
    | some .bool => some [1]
    | some .string => some [2]
    | some (.struct fs) => if P.stoodInHeld t then none else flatF (flatT P d) (szOf P) fs.toList 0
    | _ => none

def trCall (P : Program) (c : Call) : Option MO :=
  match c.callee, c.args.toList with
  | .builtin .len, [x] => match c.argTypes.toList with
    | [t] => match P.underlying t with
      | some (.slice _) => some (.len x)
      | some .string => some (.slen x)
      | _ => none
    | _ => none
  | .builtin .min, [x, y] => some (.mm false x y)
  | .builtin .max, [x, y] => some (.mm true x y)
  | .builtin .append, [x, y] => match c.argTypes.toList with
    | [t, u] => if t = u then match P.underlying t with
      | some (.slice e) => match P.info? e, zeroOf P e with
        | some i, some z => if i.size ≠ 0 ∧ z.length = i.size then some (.append i.size i.bytes x y) else none
        | _, _ => none
      | _ => none
      else none
    | _ => none
  | .value (.func f), args => match P.funcs[f]? with
    | some fn => if fn.body.isSome && !(fn.name == "runtime.NumGoroutine") then some (.call f args) else none
    | none => none
  | .value (.tmp t), args => some (.callv (.tmp t) args)
  | _, _ => none

def trEqs (P : Program) (op : BinOp) (t : TypeId) (x y : Operand) : Option MO :=
  if P.eqGuardType P.depth t then none else match op, flatT P 10000 t with
  | .eql, some ks => some (.beqs false ks x y)
  | .neq, some ks => some (.beqs true ks x y)
  | _, _ => none

/-- Keys that are flat structs: the kinds of their cells. -/
def mapKey (P : Program) (kt : TypeId) : Option (List Nat) :=
  match P.underlying kt with
  | some (.struct _) => flatT P 10000 kt
  | _ => none

def trOp (P : Program) : Op → Option MO
  | .move x | .assign x => some (.mv x)
  | .pick c a b => some (.pick c a b)
  | .alloc t => (zeroOf P t).map .alloc
  | .box t x => (szOf P t).map fun n => .box n x
  | .build t ps => match zeroOf P t, partsOf P t ps.toList with
    | some z, some qs => if fieldsSized P t then some (.build z qs) else none
    | _, _ => none
  | .buildSlice t len ps => match P.underlying t with
    | some (.slice e) => match szOf P e, zeroOf P e with
      | some n, some z => if n = z.length ∧ n ≠ 0 ∧ len ≠ 0 ∧ len * n ≤ 1024 then
          some (.bsl n len ((List.replicate len z).flatten) (ps.toList.map fun (i, x) => (i * n, n, x))) else none
      | _, _ => none
    | _ => none
  | .load t a => match P.underlying t, szOf P t with
    | some d, some n => some (.load (isRowTy d) (if isRowTy d then n else 1) a)
    | _, _ => none
  | .store t a x => (szOf P t).map fun n => .store n a x
  | .binOp op t x y _ => match P.underlying t with
    | some (.int _) | some .string => some (.bin op x y)
    | some .bool => match op with | .eql => some (.beq false x y) | .neq => some (.beq true x y) | _ => none
    | some (.struct _) => trEqs P op t x y
    | _ => none
  | .unOp op _ x => some (.un op x)
  | .convert s d x => match P.underlying s, P.underlying d with
    | some (.int _), some (.int k) => some (.conv k x)
    | _, _ => none
  | .fieldAddr s x f => match P.underlying s with
    | some (.struct fs) => match fs[f]? with
      | some fl => match szOf P fl.type with
        | some n => if n ≠ 0 then some (.faddr fl.offset x) else none
        | none => none
      | none => none
    | _ => none
  | .indexAddr t x i => match P.underlying t with
    | some (.slice e) => (szOf P e).map fun n => .iaddr n x i
    | some (.array len e) => (szOf P e).map fun n => .aaddr len n x i
    | _ => none
  | .index t x i => match P.underlying t with
    | some (.array len e) => match szOf P e, P.underlying e with
      | some n, some d => some (.idx len n (isRowTy d) x i)
      | _, _ => none
    | _ => none
  | .extract x i => some (.ext i x)
  | .makeFunc f first caps => some (.mkf f first.toList caps.toList)
  | .makeSlice t x y => match P.underlying t with
    | some (.slice e) => match P.info? e, zeroOf P e with
      | some i, some z => if i.size ≠ 0 ∧ z.length = i.size then some (.mks i.size i.bytes z x y) else none
      | _, _ => none
    | _ => none
  | .slice t x lo hi mx => match P.underlying t with
    | some (.slice e) => if mx.isSome && hi.isNone then none else (szOf P e).map fun n => .slc n x lo hi mx
    | _ => none
  | .lookup t m k ok => match P.underlying t with
    | some (.map kt e) => match mapKey P kt, (P.info? e).bind (·.zero) with
      | some ks, some z => some (.lkp ks ok z m k)
      | _, _ => none
    | _ => none
  | .makeMap _ r => if r.isNone then some .mkm else none
  | .mapUpdate t m k x => match P.underlying t with
    | some (.map kt _) => (mapKey P kt).map fun ks => .mset ks m k x
    | _ => none
  | .call c => trCall P c
  | _ => none

/-- The guard's temporary. -/
def trGuard (ops : Array Oper) : Option (Nat × Bool) → Option (Option (Nat × Bool))
  | none => some none
  | some (j, w) => match (ops[j]?).bind (·.dst) with
    | some d => some (some (d, w))
    | none => none

def trOper (P : Program) (ops : Array Oper) (o : Oper) : Option GO :=
  match trGuard ops o.guard, trOp P o.op with
  | some g, some m => some ⟨o.dst, g, m⟩
  | _, _ => none
end Go.QL
