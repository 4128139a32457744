/- The symbolic evaluator: operations over abstract values. -/
import Derived.Test.YtfhkfahgimibaaaBase
namespace Go.QL

/-- A box: cells, a map, or what is still to be yielded to a round (none: the rounds have been stopped). -/
inductive Bx where
  | cs (c : List AV)
  | mp (es : List (Value × AV))
  | yc (b : Nat) (y : Option (List (List AV)))
  deriving Inhabited

def look {α : Type} : List (Nat × α) → Nat → Option α
  | [], _ => none
  | (j, x) :: r, i => if i = j then some x else look r i

def upd {α : Type} : List (Nat × α) → Nat → α → List (Nat × α)
  | [], _, _ => []
  | (j, x) :: r, i, y => if i = j then (j, y) :: r else (j, x) :: upd r i y

/-- A symbolic state: temporaries, own boxes by labels, and the first label that is free. -/
structure St where
  t : List (Nat × AV)
  σ : List (Nat × Bx)
  n : Nat

def St.get (s : St) (i : Nat) : AV := (look s.t i).getD .any
def St.put (s : St) (d : Option Nat) (x : AV) : St := match d with | some i => { s with t := (i, x) :: s.t } | none => s
def St.new (s : St) : List Bx → St
  | [] => s
  | x :: r => St.new { s with σ := (s.n, x) :: s.σ, n := s.n + 1 } r
def St.set (s : St) (l : Nat) (x : Bx) : St := { s with σ := upd s.σ l x }

def St.ev (s : St) : Operand → AV
  | .tmp t => s.get t
  | .const v => .vl v
  | .global _ => .any
  | .func f => .fn (.func f) [] []

inductive MO where
  | mv (x : Operand)
  | pick (c a b : Operand)
  | alloc (z : List Value)
  | box (n : Nat) (x : Operand)
  | build (z : List Value) (ps : List (Nat × Nat × Operand))
  | bsl (sz len : Nat) (z : List Value) (ps : List (Nat × Nat × Operand))
  | load (agg : Bool) (n : Nat) (a : Operand)
  | store (n : Nat) (a x : Operand)
  | bin (op : BinOp) (x y : Operand)
  | beq (neg : Bool) (x y : Operand)
  | un (op : UnOp) (x : Operand)
  | conv (k : IntKind) (x : Operand)
  | faddr (off : Nat) (x : Operand)
  | iaddr (sz : Nat) (x i : Operand)
  | aaddr (len sz : Nat) (x i : Operand)
  | idx (len sz : Nat) (agg : Bool) (x i : Operand)
  | len (x : Operand)
  | slen (x : Operand)
  | ext (i : Nat) (x : Operand)
  | mkf (f : Fn) (first caps : List Operand)
  | mm (mx : Bool) (x y : Operand)
  | beqs (neg : Bool) (ks : List Nat) (x y : Operand)
  | mks (sz bytes : Nat) (z : List Value) (len cap : Operand)
  | slc (sz : Nat) (x : Operand) (lo hi mx : Option Operand)
  | call (f : Nat) (args : List Operand)
  | callv (f : Operand) (args : List Operand)
  | append (sz bytes : Nat) (x y : Operand)
  | lkp (ks : List Nat) (ok : Bool) (z : Value) (m key : Operand)
  | mkm
  | mset (ks : List Nat) (m key x : Operand)
  | other

/-- A guarded operation: the guard's temporary, and what it must be. -/
structure GO where
  dst : Option Nat
  g : Option (Nat × Bool)
  op : MO

def InR (x : Int) : Prop := -9223372036854775808 ≤ x ∧ x ≤ 9223372036854775807

def strip (c : Bool) : AV → (AV → Prop) → Prop
  | .gd d y, k => (c = true → d = true) ∧ strip c y k
  | x, k => k x

def asSl : AV → Option (List (List AV))
  | .sl es => some es
  | .vl (.slice none 0 0) => some []
  | _ => none

def AV.isCell : AV → Bool
  | .vl x => x.oneCell'
  | .any => false
  | .agg _ => false
  | .tup _ => false
  | .gd _ _ => false
  | _ => true

def AV.cells : AV → List AV
  | .agg cs => cs
  | .vl (.agg cs) => cs.toList.map .vl
  | x => [x]

def bitv (op : BinOp) (k : IntKind) (a b : Int) : Int :=
  match op with
  | .and => k.wrap ((BitVec.ofInt k.bits a &&& BitVec.ofInt k.bits b).toNat : Int)
  | .or => k.wrap ((BitVec.ofInt k.bits a ||| BitVec.ofInt k.bits b).toNat : Int)
  | .xor => k.wrap ((BitVec.ofInt k.bits a ^^^ BitVec.ofInt k.bits b).toNat : Int)
  | _ => k.wrap ((BitVec.ofInt k.bits a &&& ~~~ BitVec.ofInt k.bits b).toNat : Int)

/-- Whole numbers: what an operation gives; sums of 64 signed bits must stay in their range. -/
def binInt (c : Bool) (op : BinOp) (k : IntKind) (a b : Int) (K : AV → Prop) : Prop :=
  match op with
  | .add => if k = .i64 then (c = true → InR (a + b)) ∧ K (.vl (.int k (a + b))) else K (.vl (.int k (k.wrap (a + b))))
  | .sub => if k = .i64 then (c = true → InR (a - b)) ∧ K (.vl (.int k (a - b))) else K (.vl (.int k (k.wrap (a - b))))
  | .mul => if k = .i64 then (c = true → InR (a * b)) ∧ K (.vl (.int k (a * b))) else K (.vl (.int k (k.wrap (a * b))))
  | .quo => if k = .i64 then (c = true → b ≠ 0 ∧ InR (a.tdiv b)) ∧ K (.vl (.int k (a.tdiv b))) else (c = true → b ≠ 0) ∧ K (.vl (.int k (k.wrap (a.tdiv b))))
  | .rem => (c = true → b ≠ 0) ∧ K (.vl (.int k (a.tmod b)))
  | .and | .or | .xor | .andNot => K (.vl (.int k (bitv op k a b)))
  | .eql => K (.vl (.bool (decide (a = b))))
  | .neq => K (.vl (.bool (!decide (a = b))))
  | .lss => K (.vl (.bool (decide (a < b))))
  | .leq => K (.vl (.bool (decide (a ≤ b))))
  | .gtr => K (.vl (.bool (decide (b < a))))
  | .geq => K (.vl (.bool (decide (b ≤ a))))
  | .shl | .shr => False

def binV (c : Bool) (op : BinOp) (x y : AV) (K : AV → Prop) : Prop :=
  match op, x, y with
  | .shl, .vl (.int k a), .vl (.int _ b) => (c = true → 0 ≤ b) ∧ K (.vl (.int k (k.wrap (a * 2 ^ (min b.toNat k.bits)))))
  | .shr, .vl (.int k a), .vl (.int _ b) => (c = true → 0 ≤ b) ∧ K (.vl (.int k (a.fdiv (2 ^ (min b.toNat k.bits)))))
  | op, .vl (.int k a), .vl (.int k' b) => k = k' ∧ binInt c op k a b K
  | .eql, .vl (.string a), .vl (.string b) => K (.vl (.bool (a.toList == b.toList)))
  | .neq, .vl (.string a), .vl (.string b) => K (.vl (.bool (!(a.toList == b.toList))))
  | _, _, _ => False

/-- The parts of a literal, laid over its zero cells. -/
def fillV (g : Operand → AV) (c : Bool) : List AV → List (Nat × Nat × Operand) → (List AV → Prop) → Prop
  | z, [], K => K z
  | z, (off, n, x) :: ps, K => strip c (g x) fun y => (c = true → y.cells.length = n ∧ off + n ≤ z.length ∧ y.cells.all AV.isCell = true) ∧ fillV g c (z.take off ++ y.cells ++ z.drop (off + n)) ps K

/-- An end of a part of a row. -/
def slcB (g : Operand → AV) (c : Bool) (lo : Option Operand) (d : Int) (K : Int → Prop) : Prop :=
  match lo with
  | none => K d
  | some x => strip c (g x) fun
    | .vl (.int _ i) => K i
    | _ => False

def eqS (k : Nat) (x y : AV) (K : Bool → Prop) : Prop :=
  match k, x, y with
  | 0, .vl (.int p a), .vl (.int q b) => p = q ∧ K (a == b)
  | 1, .vl (.bool a), .vl (.bool b) => K (a == b)
  | 2, .vl (.string a), .vl (.string b) => K (a.toList == b.toList)
  | _, _, _ => False

/-- Cell by cell. -/
def eqC (c : Bool) : List Nat → List AV → List AV → (Bool → Prop) → Prop
  | [], [], [], K => K true
  | k :: ks, x :: xs, y :: ys, K => strip c x fun x => strip c y fun y => eqS k x y fun a => eqC c ks xs ys fun b => K (a && b)
  | _, _, _, _ => False

def AV.isRow : AV → Bool
  | .agg _ => true
  | .vl (.agg _) => true
  | _ => false

def sameB : Nat → Value → Value → Option Bool
  | 0, .int k a, .int k' b => if k = k' then some (a == b) else none
  | 1, .bool a, .bool b => some (a == b)
  | 2, .string a, .string b => some (a.toList == b.toList)
  | _, _, _ => none

def eqVs : List Nat → List Value → List Value → Option Bool
  | [], [], [] => some true
  | k :: ks, v :: vs, u :: us => match sameB k v u, eqVs ks vs us with
    | some a, some b => some (a && b)
    | _, _ => none
  | _, _, _ => none

/-- Where a key is found, if every comparison is one of like cells. -/
def findV (ks : List Nat) (kc : List Value) : List (Value × AV) → Nat → Option (Option (Nat × AV))
  | [], _ => some none
  | (k, x) :: r, i => match eqVs ks kc k.cells.toList with
    | some true => some (some (i, x))
    | some false => findV ks kc r (i + 1)
    | none => none

/-- The values that are described, where they are told in full. -/
def valsOf : List AV → Option (List Value)
  | [] => some []
  | .vl v :: r => match valsOf r with
    | some vs => some (v :: vs)
    | none => none
  | _ :: _ => none

def AV.toVal : AV → Option Value
  | .vl v => some v
  | .agg cs => match valsOf cs with
    | some vs => some (.agg vs.toArray)
    | none => none
  | _ => none

def Value.isAggV : Value → Bool
  | .agg _ => true
  | _ => false

/-- What a look-up gives. -/
def lkpR (ok : Bool) (z : Value) (r : Option (Nat × AV)) : AV :=
  let v := match r with
    | some (_, x) => x
    | none => .vl z
  if ok then .tup [v, .vl (.bool r.isSome)] else v

def lkpE (c : Bool) (ks : List Nat) (ok : Bool) (z : Value) (es : List (Value × AV)) (key : AV) (K : AV → Prop) : Prop :=
  match key.toVal with
  | some kv => (c = true → Value.isAggV kv = true ∧ (eqVs ks kv.cells.toList kv.cells.toList).isSome = true ∧ ∀ e ∈ es, Value.isAggV e.1 = true) ∧ ∃ r, findV ks kv.cells.toList es 0 = some r ∧ K (lkpR ok z r)
  | none => False

/-- The zero cells of some elements. -/
def zcells (z : List Value) (n : Nat) : List AV := (List.replicate n (z.map .vl)).flatten

/-- An operation without an effect on what is there: its value, and the boxes that it makes. -/
def qv (c : Bool) (m : MO) (g : Operand → AV) (σ : Nat → Option Bx) (l : Nat) (K : AV → List Bx → Prop) : Prop :=
  match m with
  | .mv x => K (g x) []
  | .pick x a b => strip c (g x) fun
    | .vl (.bool p) => strip (c && p) (g a) fun A => strip (c && !p) (g b) fun B =>
      match A, B with
      | .vl (.bool u), .vl (.bool v) => K (.vl (.bool (bif p then u else v))) []
      | _, _ => False
    | _ => False
  | .alloc z => K (.ptr l 0) [.cs (z.map .vl)]
  | .box n x => strip c (g x) fun y => (c = true → y.cells.length = n ∧ y.cells.all AV.isCell = true) ∧ K (.ptr l 0) [.cs y.cells]
  | .build z ps => fillV g c (z.map .vl) ps fun cs => K (.agg cs) []
  | .bsl sz len z ps => fillV g c (z.map .vl) ps fun cs => K (.osl sz l 0 len len) [.cs cs]
  | .load agg n a => strip c (g a) fun
    | .dp cs => (c = true → n ≤ cs.length) ∧ K (if agg then .agg (cs.take n) else cs.headD .any) []
    | .ptr l off => match σ l with
      | some (.cs cs) => (c = true → off + n ≤ cs.length) ∧ K (if agg then .agg ((cs.drop off).take n) else (cs.drop off).headD .any) []
      | _ => False
    | _ => False
  | .bin op x y => strip c (g x) fun x => strip c (g y) fun y => binV c op x y fun r => K r []
  | .beq neg x y => strip c (g x) fun x => strip c (g y) fun y =>
    match x, y with
    | .vl (.bool a), .vl (.bool b) => K (.vl (.bool (if neg then !(a == b) else a == b))) []
    | _, _ => False
  | .un op x => strip c (g x) fun x =>
    match op, x with
    | .not, .vl (.bool b) => K (.vl (.bool (!b))) []
    | .neg, .vl (.int k n) => if k = .i64 then (c = true → InR (-n)) ∧ K (.vl (.int k (-n))) [] else K (.vl (.int k (k.wrap (0 - n)))) []
    | _, _ => False
  | .conv k x => strip c (g x) fun
    | .vl (.int _ n) => K (.vl (.int k (k.wrap n))) []
    | _ => False
  | .faddr off x => strip c (g x) fun
    | .dp cs => (c = true → off ≤ cs.length) ∧ K (.dp (cs.drop off)) []
    | .ptr l o => K (.ptr l (o + off)) []
    | _ => False
  | .iaddr sz x i => strip c (g x) fun x => strip c (g i) fun
    | .vl (.int _ i) =>
      match x with
      | .osl sz' l off len _ => (c = true → sz' = sz ∧ 0 ≤ i ∧ i < len) ∧ K (.ptr l (off + i.toNat * sz)) []
      | x => match asSl x with
        | some es => (c = true → 0 ≤ i ∧ i < es.length ∧ (es.getD i.toNat []).length = sz) ∧ K (.dp (es.getD i.toNat [])) []
        | none => False
    | _ => False
  | .aaddr len sz x i => strip c (g x) fun x => strip c (g i) fun
    | .vl (.int _ i) =>
      match x with
      | .ptr l off => (c = true → 0 ≤ i ∧ i < len) ∧ K (.ptr l (off + i.toNat * sz)) []
      | .dp cs => (c = true → 0 ≤ i ∧ i < len ∧ len * sz ≤ cs.length) ∧ K (.dp (cs.drop (i.toNat * sz))) []
      | _ => False
    | _ => False
  | .idx len sz agg x i => strip c (g x) fun x => strip c (g i) fun
    | .vl (.int _ i) =>
      match x with
      | .agg cs => (c = true → 0 ≤ i ∧ i < len ∧ len * sz ≤ cs.length ∧ 0 < sz) ∧ K (if agg then .agg ((cs.drop (i.toNat * sz)).take sz) else (cs.drop (i.toNat * sz)).headD .any) []
      | _ => False
    | _ => False
  | .len x => strip c (g x) fun
    | .osl _ _ _ len _ => K (.vl (.int .i64 len)) []
    | x => match asSl x with
      | some es => K (.vl (.int .i64 es.length)) []
      | none => False
  | .slen x => strip c (g x) fun
    | .vl (.string s) => K (.vl (.int .i64 s.size)) []
    | _ => False
  | .ext i x => strip c (g x) fun
    | .tup vs => (c = true → i < vs.length) ∧ K (vs.getD i .any) []
    | _ => False
  | .mkf f first caps => K (.fn f (first.map g) (caps.map g)) []
  | .mm mx x y => strip c (g x) fun x => strip c (g y) fun y =>
    match x, y with
    | .vl (.int k a), .vl (.int k' b) => k = k' ∧ K (.vl (.int k (if mx then max a b else min a b))) []
    | _, _ => False
  | .beqs neg ks x y => strip c (g x) fun x => strip c (g y) fun y => (c = true → x.isRow = true ∧ y.isRow = true) ∧ eqC c ks x.cells y.cells fun b => K (.vl (.bool (if neg then !b else b))) []
  | .mks sz bytes z len cap => strip c (g len) fun x => strip c (g cap) fun y =>
    match x, y with
    | .vl (.int _ a), .vl (.int _ b) => (c = true → 0 ≤ a ∧ a ≤ b ∧ (bytes : Int) * b ≤ 281474976710656 ∧ b ≤ 9223372036854775807) ∧ K (.osl sz l 0 a.toNat b.toNat) [.cs (zcells z b.toNat)]
    | _, _ => False
  | .slc sz x lo hi mx => strip c (g x) fun
    | .osl sz' l off len _ => slcB g c lo 0 fun a => slcB g c hi len fun b => slcB g c mx len fun m =>
      (c = true → sz' = sz ∧ 0 ≤ a ∧ a ≤ b ∧ b ≤ m ∧ m ≤ len) ∧ K (.osl sz l (off + a.toNat * sz) (b - a).toNat (b - a).toNat) []
    | x => match asSl x with
      | some es => slcB g c lo 0 fun a => slcB g c hi es.length fun b => slcB g c mx es.length fun m =>
        (c = true → (∀ e ∈ es, e.length = sz) ∧ 0 ≤ a ∧ a ≤ b ∧ b ≤ m ∧ m ≤ es.length) ∧ K (.sl ((es.take b.toNat).drop a.toNat)) []
      | none => False
  | .lkp ks ok z m key => strip c (g m) fun
    | .mp l => match σ l with
      | some (.mp es) => strip c (g key) fun key => lkpE c ks ok z es key fun r => K r []
      | _ => False
    | .imp es => strip c (g key) fun key => lkpE c ks ok z (es.map fun e => (e.1, .vl e.2)) key fun r => K r []
    | _ => False
  | _ => False
end Go.QL
