/- How the evaluator is run by rewriting: what is looked into, and what is left for later. Written by gen_step.py. -/
import Derived.Test.YtfhkfahgimibaaaTrCode
import Derived.KernelRfl
namespace Go.QL
abbrev t (n : Nat) : Operand := .tmp n
abbrev k (n : Int) : Operand := .const (.int .i64 n)
abbrev kb (b : Bool) : Operand := .const (.bool b)
abbrev g (d : Nat) (m : MO) : GO := ⟨some d, none, m⟩
abbrev gn (m : MO) : GO := ⟨none, none, m⟩
abbrev gg (d j : Nat) (w : Bool) (m : MO) : GO := ⟨some d, some (j, w), m⟩
abbrev I (n : Int) : AV := .vl (.int .i64 n)
abbrev B (b : Bool) : AV := .vl (.bool b)

/-- What hangs on K: so that rewriting leaves K alone till it is its turn. -/
inductive DU {β : Sort 1} (K : β) : Type
  | mk
inductive DP (A B : Prop) : Type
  | mk

def sStrip (c : Bool) (x : AV) (K : AV → Prop) (_ : DU K) : Prop := strip c x K
def sStripL (c : Bool) (x : List AV) (K : List AV → Prop) (_ : DU K) : Prop := stripL c x K
def sBin (c : Bool) (op : BinOp) (x y : AV) (K : AV → Prop) (_ : DU K) : Prop := binV c op x y K
def sFill (s : St) (c : Bool) (z : List AV) (ps : List (Nat × Nat × Operand)) (K : List AV → Prop) (_ : DU K) : Prop := fillV s.ev c z ps K
def sStore (n : Nat) (a x : AV) (s : St) (K : St → Prop) (_ : DU K) : Prop := storeV n a x s K
def sOps (P : Program) (os : List GO) (s : St) (K : St → Prop) (_ : DU K) : Prop := vops P os s K
def sDops (P : Program) (n0 : Nat) (os : List GO) (s : St) (K : St → Prop) (_ : DU K) : Prop := vdops P n0 os s K
def sCallT (P : Program) (n0 : Nat) (f : FuncId) (as : List AV) (s : St) (dst : Option Nat) (K : St → Prop) (_ : DU K) : Prop := CallR P n0 f as s dst K
def callvR (P : Program) (n0 : Nat) (s : St) (as : List Operand) (dst : Option Nat) (F : AV) (K : St → Prop) (_ : DU K) : Prop :=
  match F with
  | .fn (.func n) first caps => stripL true (as.map s.ev) fun as => Ent P n ∧ CallR P n0 n (first ++ as ++ caps) s dst K
  | _ => False
def sGg (P : Program) (d : Option Nat) (c : Bool) (m : MO) (s : St) (K : St → Prop) (_ : DU K) : Prop := vgg P d c m s K
def sGv (P : Program) (d : Option Nat) (c : Bool) (m : MO) (s : St) (K : St → Prop) (_ : DU K) : Prop := vgv P d c m s K
def sVc (P : Program) (b0 : Nat) (m : MC) (s : St) (Q : Exit → St → Prop) (_ : DU Q) : Prop := vc P b0 m s Q
def sCall (P : Program) (f : FuncId) (as : List AV) (s : St) (dst : Option Nat) (K : St → Prop) (_ : DU K) : Prop := CallA P f as s dst K
def callvV (P : Program) (s : St) (as : List Operand) (dst : Option Nat) (F : AV) (K : St → Prop) (_ : DU K) : Prop :=
  match F with
  | .fn (.func n) first caps => stripL true (as.map s.ev) fun as => Ent P n ∧ CallA P n (first ++ as ++ caps) s dst K
  | .vl (.func (.yield b) fs cs) => stripL true (as.map s.ev) fun as => (fs = #[] ∧ cs = #[]) ∧ YieldO b as s dst K
  | _ => False
def sYield (b : Nat) (as : List AV) (s : St) (dst : Option Nat) (K : St → Prop) (_ : DU K) : Prop := YieldO b as s dst K
def sLkp (c : Bool) (ks : List Nat) (ok : Bool) (z : Value) (es : List (Value × AV)) (key : AV) (K : AV → Prop) (_ : DU K) : Prop := lkpE c ks ok z es key K
def lkpB (c : Bool) (ks : List Nat) (ok : Bool) (z : Value) (b : Option Bx) (key : AV) (K : AV → Prop) (_ : DU K) : Prop :=
  match b with
  | some (.mp es) => strip c key fun key => lkpE c ks ok z es key K
  | _ => False
def lkpV (c : Bool) (ks : List Nat) (ok : Bool) (z : Value) (m : AV) (σ : List (Nat × Bx)) (key : AV) (K : AV → Prop) (_ : DU K) : Prop :=
  match m with
  | .mp l => match look σ l with
    | some (.mp es) => strip c key fun key => lkpE c ks ok z es key K
    | _ => False
  | .imp es => strip c key fun key => lkpE c ks ok z (es.map fun e => (e.1, AV.vl e.2)) key K
  | _ => False
def sMset (ks : List Nat) (es : List (Value × AV)) (key x : AV) (K : List (Value × AV) → Prop) (_ : DU K) : Prop := msetE ks es key x K
def msetB (ks : List Nat) (s : St) (l : Nat) (b : Option Bx) (key x : AV) (K : St → Prop) (_ : DU K) : Prop :=
  match b with
  | some (.mp es) => strip true key fun key => strip true x fun x => msetE ks es key x fun es' => K (s.set l (.mp es'))
  | _ => False
def msetV (ks : List Nat) (s : St) (m key x : AV) (K : St → Prop) (_ : DU K) : Prop :=
  match m with
  | .mp l => match look s.σ l with
    | some (.mp es) => strip true key fun key => strip true x fun x => msetE ks es key x fun es' => K (s.set l (.mp es'))
    | _ => False
  | _ => False
def sCallG (P : Program) (f : FuncId) (c : Bool) (as : List AV) (s : St) (dst : Option Nat) (K : St → Prop) (_ : DU K) : Prop := CallG P f c as s dst K
def sCallV (P : Program) (f : FuncId) (c : Bool) (as : List AV) (s : St) (dst : Option Nat) (K : St → Prop) (_ : DU K) : Prop := CallG P f c as s dst K ∨ (c = true ∧ CallA P f as s dst K)
def sCond (x : AV) (A B : Prop) (_ : DP A B) : Prop := CondO x A B
def sLoop (A : Prop) (_ : DP A A) : Prop := A
def sRet (s : St) (rs : List RV) (post : AV → Prop) (_ : DU post) : Prop := RetO s rs post

def sSlcB (s : St) (c : Bool) (lo : Option Operand) (d : Int) (K : Int → Prop) (_ : DU K) : Prop := slcB s.ev c lo d K
def asInt (x : AV) (K : Int → Prop) (_ : DU K) : Prop :=
  match x with
  | .vl (.int _ i) => K i
  | _ => False
def mksV (c : Bool) (bytes : Nat) (x y : AV) (K : Int → Int → Prop) (_ : DU K) : Prop :=
  match x, y with
  | .vl (.int _ a), .vl (.int _ b) => (c = true → 0 ≤ a ∧ a ≤ b ∧ (bytes : Int) * b ≤ 281474976710656 ∧ b ≤ 9223372036854775807) ∧ K a b
  | _, _ => False
def slcV (c : Bool) (sz : Nat) (s : St) (lo hi mx : Option Operand) (x : AV) (K : AV → Prop) (_ : DU K) : Prop :=
  match x with
  | .osl sz' l off len _ => slcB s.ev c lo 0 fun a => slcB s.ev c hi len fun b => slcB s.ev c mx len fun m =>
      (c = true → sz' = sz ∧ 0 ≤ a ∧ a ≤ b ∧ b ≤ m ∧ m ≤ len) ∧ K (.osl sz l (off + a.toNat * sz) (b - a).toNat (b - a).toNat)
  | x => match asSl x with
      | some es => slcB s.ev c lo 0 fun a => slcB s.ev c hi es.length fun b => slcB s.ev c mx es.length fun m =>
        (c = true → (∀ e ∈ es, e.length = sz) ∧ 0 ≤ a ∧ a ≤ b ∧ b ≤ m ∧ m ≤ es.length) ∧ K (.sl ((es.take b.toNat).drop a.toNat))
      | none => False
def sNews (s : St) (sz : Nat) (y : AV) (K : Nat → List AV → Prop) (_ : DU K) : Prop := newsV s sz y K
def sApp (s : St) (sz bytes : Nat) (x : AV) (m : Nat) (news : List AV) (K : St → AV → Prop) (_ : DU K) : Prop := appV s sz bytes x m news K
def newsB (sz off len : Nat) (b : Option Bx) (K : Nat → List AV → Prop) (_ : DU K) : Prop :=
  match b with
  | some (.cs cs) => (off + len * sz ≤ cs.length) ∧ K len ((cs.drop off).take (len * sz))
  | _ => False
def appB (s : St) (sz bytes l len m : Nat) (news : List AV) (b : Option Bx) (K : St → AV → Prop) (_ : DU K) : Prop :=
  match b with
  | some (.cs cs) => (len * sz ≤ cs.length ∧ len + m ≤ maxLen ∧ (len + m) * bytes ≤ 140737488355328) ∧ K (s.move l (.cs (cs.take (len * sz) ++ news))) (.osl sz s.n 0 (len + m) (len + m))
  | _ => False
def loadV (c : Bool) (agg : Bool) (n : Nat) (x : AV) (σ : List (Nat × Bx)) (K : AV → Prop) (_ : DU K) : Prop :=
  match x with
  | .dp cs => (c = true → n ≤ cs.length) ∧ K (if agg then .agg (cs.take n) else cs.headD .any)
  | .ptr l off => match look σ l with
    | some (.cs cs) => (c = true → off + n ≤ cs.length) ∧ K (if agg then .agg ((cs.drop off).take n) else (cs.drop off).headD .any)
    | _ => False
  | _ => False
def iaddrV (c : Bool) (sz : Nat) (x i : AV) (K : AV → Prop) (_ : DU K) : Prop :=
  match i with
  | .vl (.int _ i) =>
    match x with
    | .osl sz' l off len _ => (c = true → sz' = sz ∧ 0 ≤ i ∧ i < len) ∧ K (.ptr l (off + i.toNat * sz))
    | x => match asSl x with
      | some es => (c = true → 0 ≤ i ∧ i < es.length ∧ (es.getD i.toNat []).length = sz) ∧ K (.dp (es.getD i.toNat []))
      | none => False
  | _ => False
def aaddrV (c : Bool) (len sz : Nat) (x i : AV) (K : AV → Prop) (_ : DU K) : Prop :=
  match i with
  | .vl (.int _ i) =>
    match x with
    | .ptr l off => (c = true → 0 ≤ i ∧ i < len) ∧ K (.ptr l (off + i.toNat * sz))
    | .dp cs => (c = true → 0 ≤ i ∧ i < len ∧ len * sz ≤ cs.length) ∧ K (.dp (cs.drop (i.toNat * sz)))
    | _ => False
  | _ => False
def idxV (c : Bool) (len sz : Nat) (agg : Bool) (x i : AV) (K : AV → Prop) (_ : DU K) : Prop :=
  match i with
  | .vl (.int _ i) =>
    match x with
    | .agg cs => (c = true → 0 ≤ i ∧ i < len ∧ len * sz ≤ cs.length ∧ 0 < sz) ∧ K (if agg then .agg ((cs.drop (i.toNat * sz)).take sz) else (cs.drop (i.toNat * sz)).headD .any)
    | _ => False
  | _ => False
def lenV (x : AV) (K : AV → Prop) (_ : DU K) : Prop :=
  match x with
  | .osl _ _ _ len _ => K (.vl (.int .i64 len))
  | x => match asSl x with
    | some es => K (.vl (.int .i64 es.length))
    | none => False
def slenV (x : AV) (K : AV → Prop) (_ : DU K) : Prop :=
  match x with
  | .vl (.string s) => K (.vl (.int .i64 s.size))
  | _ => False
def faddrV (c : Bool) (off : Nat) (x : AV) (K : AV → Prop) (_ : DU K) : Prop :=
  match x with
  | .dp cs => (c = true → off ≤ cs.length) ∧ K (.dp (cs.drop off))
  | .ptr l o => K (.ptr l (o + off))
  | _ => False
def extV (c : Bool) (i : Nat) (x : AV) (K : AV → Prop) (_ : DU K) : Prop :=
  match x with
  | .tup vs => (c = true → i < vs.length) ∧ K (vs.getD i .any)
  | _ => False
def convV (k : IntKind) (x : AV) (K : AV → Prop) (_ : DU K) : Prop :=
  match x with
  | .vl (.int _ n) => K (.vl (.int k (k.wrap n)))
  | _ => False
def unV (c : Bool) (op : UnOp) (x : AV) (K : AV → Prop) (_ : DU K) : Prop :=
  match op, x with
  | .not, .vl (.bool b) => K (.vl (.bool (!b)))
  | .neg, .vl (.int k n) => if k = .i64 then (c = true → InR (-n)) ∧ K (.vl (.int k (-n))) else K (.vl (.int k (k.wrap (0 - n))))
  | _, _ => False
def beqV (neg : Bool) (x y : AV) (K : AV → Prop) (_ : DU K) : Prop :=
  match x, y with
  | .vl (.bool a), .vl (.bool b) => K (.vl (.bool (if neg then !(a == b) else a == b)))
  | _, _ => False
def sEqC (c : Bool) (ks : List Nat) (xs ys : List AV) (K : Bool → Prop) (_ : DU K) : Prop := eqC c ks xs ys K
def sEqS (k : Nat) (x y : AV) (K : Bool → Prop) (_ : DU K) : Prop := eqS k x y K
def beqsV (c : Bool) (neg : Bool) (ks : List Nat) (x y : AV) (K : AV → Prop) (_ : DU K) : Prop :=
  (c = true → x.isRow = true ∧ y.isRow = true) ∧ sEqC c ks x.cells y.cells (fun b => K (.vl (.bool (if neg then !b else b)))) .mk
def mmV (mx : Bool) (x y : AV) (K : AV → Prop) (_ : DU K) : Prop :=
  match x, y with
  | .vl (.int k a), .vl (.int k' b) => k = k' ∧ K (.vl (.int k (if mx then max a b else min a b)))
  | _, _ => False
def pickV (p : AV) (a b : AV) (c : Bool) (K : AV → Prop) (_ : DU K) : Prop :=
  match p with
  | .vl (.bool p) => strip (c && p) a fun A => strip (c && !p) b fun B =>
    match A, B with
    | .vl (.bool u), .vl (.bool v) => K (.vl (.bool (bif p then u else v)))
    | _, _ => False
  | _ => False
def boxV (c : Bool) (n : Nat) (y : AV) (K : List AV → Prop) (_ : DU K) : Prop := (c = true → y.cells.length = n ∧ y.cells.all AV.isCell = true) ∧ K y.cells
/-- The guard of an operation: what it comes to. -/
def gdV (x : AV) (w : Bool) (K : Bool → Prop) (_ : DU K) : Prop :=
  match x with
  | .vl (.bool p) => K (if w then p else !p)
  | .gd d (.vl (.bool p)) => K (d && (if w then p else !p))
  | _ => False

def renσ (f : List Nat) : List (Nat × Bx) → List (Nat × Bx)
  | [] => []
  | (l, x) :: r => (f.getD l 0, renBx f x) :: renσ f r
theorem renσ_map (f : List Nat) : ∀ σ : List (Nat × Bx), (σ.map fun p => (f.getD p.1 0, renBx f p.2)) = renσ f σ
  | [] => rfl
  | (l, x) :: r => by rw [List.map_cons, renσ_map f r]; rfl
def orV (p : Bool) (y : AV) (K : AV → Prop) (_ : DU K) : Prop :=
  match y with
  | .vl (.bool q) => K (.vl (.bool (p || q)))
  | _ => False
def andV (p : Bool) (y : AV) (K : AV → Prop) (_ : DU K) : Prop :=
  match y with
  | .vl (.bool q) => K (.vl (.bool (p && q)))
  | _ => False
def loadB (c : Bool) (a : Bool) (n off : Nat) (b : Option Bx) (K : AV → Prop) (_ : DU K) : Prop :=
  match b with
  | some (.cs cs) => (c = true → off + n ≤ cs.length) ∧ K (if a then .agg ((cs.drop off).take n) else (cs.drop off).headD .any)
  | _ => False
def storeB (n l off : Nat) (x : AV) (s : St) (b : Option Bx) (K : St → Prop) (_ : DU K) : Prop :=
  match b with
  | some (.cs cs) => (x.cells.length = n ∧ off + n ≤ cs.length ∧ x.cells.all AV.isCell = true) ∧ K (s.set l (.cs (cs.take off ++ x.cells ++ cs.drop (off + n))))
  | _ => False
def thenV (P : Program) (b0 : Nat) (b : MC) (Q : Exit → St → Prop) (e : Exit) (s' : St) : Prop :=
  match e with
  | .normal => vc P b0 b s' Q
  | e => Q e s'
def blkV (id : Nat) (Q : Exit → St → Prop) (e : Exit) (s' : St) : Prop :=
  match e with
  | .exit i => if i = id then Q .normal s' else Q (.exit i) s'
  | e => Q e s'
def endV (rs : List RV) (post : AV → Prop) (e : Exit) (s' : St) : Prop :=
  match e with
  | .normal => RetO s' rs post
  | .ret => RetO s' rs post
  | _ => False

theorem sOps_nil (P : Program) (s : St) (K : St → Prop) (u : DU K) : sOps P [] s K u = K s := _root_.id rfl
theorem sOps_mv (P : Program) (s : St) (K : St → Prop) (u : DU K) (os : List GO) (d : Nat) (x : Operand) : sOps P (⟨some d, none, .mv x⟩ :: os) s K u = sOps P os (s.put (some d) (s.ev x)) K u := _root_.id rfl
theorem sOps_bin (P : Program) (s : St) (K : St → Prop) (u : DU K) (os : List GO) (d : Nat) (op : BinOp) (x y : Operand) : sOps P (⟨some d, none, .bin op x y⟩ :: os) s K u = sStrip true (s.ev x) (fun x => sStrip true (s.ev y) (fun y => sBin true op x y (fun r => sOps P os (s.put (some d) r) K u) .mk) .mk) .mk := _root_.id rfl
theorem sOps_beq (P : Program) (s : St) (K : St → Prop) (u : DU K) (os : List GO) (d : Nat) (b : Bool) (x y : Operand) : sOps P (⟨some d, none, .beq b x y⟩ :: os) s K u = sStrip true (s.ev x) (fun x => sStrip true (s.ev y) (fun y => beqV b x y (fun r => sOps P os (s.put (some d) r) K u) .mk) .mk) .mk := _root_.id rfl
theorem sOps_beqs (P : Program) (s : St) (K : St → Prop) (u : DU K) (os : List GO) (d : Nat) (b : Bool) (ks : List Nat) (x y : Operand) : sOps P (⟨some d, none, .beqs b ks x y⟩ :: os) s K u = sStrip true (s.ev x) (fun x => sStrip true (s.ev y) (fun y => beqsV true b ks x y (fun r => sOps P os (s.put (some d) r) K u) .mk) .mk) .mk := _root_.id rfl
theorem sOps_un (P : Program) (s : St) (K : St → Prop) (u : DU K) (os : List GO) (d : Nat) (op : UnOp) (x : Operand) : sOps P (⟨some d, none, .un op x⟩ :: os) s K u = sStrip true (s.ev x) (fun x => unV true op x (fun r => sOps P os (s.put (some d) r) K u) .mk) .mk := _root_.id rfl
theorem sOps_conv (P : Program) (s : St) (K : St → Prop) (u : DU K) (os : List GO) (d : Nat) (q : IntKind) (x : Operand) : sOps P (⟨some d, none, .conv q x⟩ :: os) s K u = sStrip true (s.ev x) (fun x => convV q x (fun r => sOps P os (s.put (some d) r) K u) .mk) .mk := _root_.id rfl
theorem sOps_faddr (P : Program) (s : St) (K : St → Prop) (u : DU K) (os : List GO) (d : Nat) (n : Nat) (x : Operand) : sOps P (⟨some d, none, .faddr n x⟩ :: os) s K u = sStrip true (s.ev x) (fun x => faddrV true n x (fun r => sOps P os (s.put (some d) r) K u) .mk) .mk := _root_.id rfl
theorem sOps_iaddr (P : Program) (s : St) (K : St → Prop) (u : DU K) (os : List GO) (d : Nat) (n : Nat) (x i : Operand) : sOps P (⟨some d, none, .iaddr n x i⟩ :: os) s K u = sStrip true (s.ev x) (fun x => sStrip true (s.ev i) (fun i => iaddrV true n x i (fun r => sOps P os (s.put (some d) r) K u) .mk) .mk) .mk := _root_.id rfl
theorem sOps_aaddr (P : Program) (s : St) (K : St → Prop) (u : DU K) (os : List GO) (d : Nat) (l n : Nat) (x i : Operand) : sOps P (⟨some d, none, .aaddr l n x i⟩ :: os) s K u = sStrip true (s.ev x) (fun x => sStrip true (s.ev i) (fun i => aaddrV true l n x i (fun r => sOps P os (s.put (some d) r) K u) .mk) .mk) .mk := _root_.id rfl
theorem sOps_idx (P : Program) (s : St) (K : St → Prop) (u : DU K) (os : List GO) (d : Nat) (l n : Nat) (a : Bool) (x i : Operand) : sOps P (⟨some d, none, .idx l n a x i⟩ :: os) s K u = sStrip true (s.ev x) (fun x => sStrip true (s.ev i) (fun i => idxV true l n a x i (fun r => sOps P os (s.put (some d) r) K u) .mk) .mk) .mk := _root_.id rfl
theorem sOps_len (P : Program) (s : St) (K : St → Prop) (u : DU K) (os : List GO) (d : Nat) (x : Operand) : sOps P (⟨some d, none, .len x⟩ :: os) s K u = sStrip true (s.ev x) (fun x => lenV x (fun r => sOps P os (s.put (some d) r) K u) .mk) .mk := _root_.id rfl
theorem sOps_slen (P : Program) (s : St) (K : St → Prop) (u : DU K) (os : List GO) (d : Nat) (x : Operand) : sOps P (⟨some d, none, .slen x⟩ :: os) s K u = sStrip true (s.ev x) (fun x => slenV x (fun r => sOps P os (s.put (some d) r) K u) .mk) .mk := _root_.id rfl
theorem sOps_ext (P : Program) (s : St) (K : St → Prop) (u : DU K) (os : List GO) (d : Nat) (i : Nat) (x : Operand) : sOps P (⟨some d, none, .ext i x⟩ :: os) s K u = sStrip true (s.ev x) (fun x => extV true i x (fun r => sOps P os (s.put (some d) r) K u) .mk) .mk := _root_.id rfl
theorem sOps_mm (P : Program) (s : St) (K : St → Prop) (u : DU K) (os : List GO) (d : Nat) (b : Bool) (x y : Operand) : sOps P (⟨some d, none, .mm b x y⟩ :: os) s K u = sStrip true (s.ev x) (fun x => sStrip true (s.ev y) (fun y => mmV b x y (fun r => sOps P os (s.put (some d) r) K u) .mk) .mk) .mk := _root_.id rfl
theorem sOps_load (P : Program) (s : St) (K : St → Prop) (u : DU K) (os : List GO) (d : Nat) (a : Bool) (n : Nat) (x : Operand) : sOps P (⟨some d, none, .load a n x⟩ :: os) s K u = sStrip true (s.ev x) (fun x => loadV true a n x s.σ (fun r => sOps P os (s.put (some d) r) K u) .mk) .mk := _root_.id rfl
theorem sOps_pick (P : Program) (s : St) (K : St → Prop) (u : DU K) (os : List GO) (d : Nat) (x y z : Operand) : sOps P (⟨some d, none, .pick x y z⟩ :: os) s K u = sStrip true (s.ev x) (fun x => pickV x (s.ev y) (s.ev z) true (fun r => sOps P os (s.put (some d) r) K u) .mk) .mk := _root_.id rfl
theorem sOps_slc (P : Program) (s : St) (K : St → Prop) (u : DU K) (os : List GO) (d : Nat) (sz : Nat) (x : Operand) (lo hi mx : Option Operand) : sOps P (⟨some d, none, .slc sz x lo hi mx⟩ :: os) s K u = sStrip true (s.ev x) (fun x => slcV true sz s lo hi mx x (fun r => sOps P os (s.put (some d) r) K u) .mk) .mk := _root_.id rfl
theorem sOps_mks (P : Program) (s : St) (K : St → Prop) (u : DU K) (os : List GO) (d : Nat) (sz by' : Nat) (z : List Value) (x y : Operand) : sOps P (⟨some d, none, .mks sz by' z x y⟩ :: os) s K u = sStrip true (s.ev x) (fun x => sStrip true (s.ev y) (fun y => mksV true by' x y (fun a b => sOps P os ((s.new [.cs (zcells z b.toNat)]).put (some d) (.osl sz s.n 0 a.toNat b.toNat)) K u) .mk) .mk) .mk := _root_.id rfl
theorem sOps_alloc (P : Program) (s : St) (K : St → Prop) (u : DU K) (os : List GO) (d : Nat) (z : List Value) : sOps P (⟨some d, none, .alloc z⟩ :: os) s K u = sOps P os ((s.new [.cs (z.map .vl)]).put (some d) (.ptr s.n 0)) K u := _root_.id rfl
theorem sOps_box (P : Program) (s : St) (K : St → Prop) (u : DU K) (os : List GO) (d : Nat) (n : Nat) (x : Operand) : sOps P (⟨some d, none, .box n x⟩ :: os) s K u = sStrip true (s.ev x) (fun x => boxV true n x (fun cs => sOps P os ((s.new [.cs cs]).put (some d) (.ptr s.n 0)) K u) .mk) .mk := _root_.id rfl
theorem sOps_build (P : Program) (s : St) (K : St → Prop) (u : DU K) (os : List GO) (d : Nat) (z : List Value) (ps : List (Nat × Nat × Operand)) : sOps P (⟨some d, none, .build z ps⟩ :: os) s K u = sFill s true (z.map .vl) ps (fun cs => sOps P os (s.put (some d) (.agg cs)) K u) .mk := _root_.id rfl
theorem sOps_bsl (P : Program) (s : St) (K : St → Prop) (u : DU K) (os : List GO) (d : Nat) (sz len : Nat) (z : List Value) (ps : List (Nat × Nat × Operand)) : sOps P (⟨some d, none, .bsl sz len z ps⟩ :: os) s K u = sFill s true (z.map .vl) ps (fun cs => sOps P os ((s.new [.cs cs]).put (some d) (.osl sz s.n 0 len len)) K u) .mk := _root_.id rfl
theorem sOps_mkf (P : Program) (s : St) (K : St → Prop) (u : DU K) (os : List GO) (d : Nat) (f : Fn) (a b : List Operand) : sOps P (⟨some d, none, .mkf f a b⟩ :: os) s K u = sOps P os (s.put (some d) (.fn f (a.map s.ev) (b.map s.ev))) K u := _root_.id rfl
theorem sOps_store (P : Program) (s : St) (K : St → Prop) (u : DU K) (os : List GO) (dd : Option Nat) (n : Nat) (a x : Operand) : sOps P (⟨dd, none, .store n a x⟩ :: os) s K u = sStrip true (s.ev a) (fun a => sStrip true (s.ev x) (fun x => sStore n a x s (fun s' => sOps P os (s'.put dd (.vl undef)) K u) .mk) .mk) .mk := _root_.id rfl
theorem sOps_call (P : Program) (s : St) (K : St → Prop) (u : DU K) (os : List GO) (dd : Option Nat) (f : Nat) (as : List Operand) : sOps P (⟨dd, none, .call f as⟩ :: os) s K u = sStripL true (as.map s.ev) (fun as => sCall P f as s dd (fun s' => sOps P os s' K u) .mk) .mk := _root_.id rfl
theorem sOps_callv (P : Program) (s : St) (K : St → Prop) (u : DU K) (os : List GO) (dd : Option Nat) (f : Operand) (as : List Operand) : sOps P (⟨dd, none, .callv f as⟩ :: os) s K u = sStrip true (s.ev f) (fun f => callvV P s as dd f (fun s' => sOps P os s' K u) .mk) .mk := _root_.id rfl
theorem callvV_fn (P : Program) (s : St) (as : List Operand) (dst : Option Nat) (n : FuncId) (first caps : List AV) (K : St → Prop) (u : DU K) : callvV P s as dst (.fn (.func n) first caps) K u = sStripL true (as.map s.ev) (fun as => Ent P n ∧ sCall P n (first ++ as ++ caps) s dst K u) .mk := _root_.id rfl
theorem sOps_append (P : Program) (s : St) (K : St → Prop) (u : DU K) (os : List GO) (dd : Option Nat) (sz by' : Nat) (x y : Operand) : sOps P (⟨dd, none, .append sz by' x y⟩ :: os) s K u = sStrip true (s.ev x) (fun x => sStrip true (s.ev y) (fun y => sNews s sz y (fun m news => sApp s sz by' x m news (fun s' r => sOps P os (s'.put dd r) K u) .mk) .mk) .mk) .mk := _root_.id rfl
theorem sOps_gd (P : Program) (s : St) (K : St → Prop) (u : DU K) (os : List GO) (dd : Option Nat) (m : MO) (j : Nat) (w : Bool) : sOps P (⟨dd, some (j, w), m⟩ :: os) s K u = gdV (s.get j) w (fun c => sGv P dd c m s (fun s' => sOps P os s' K u) .mk) .mk := _root_.id rfl
theorem callvV_y (P : Program) (s : St) (as : List Operand) (dst : Option Nat) (b : Nat) (K : St → Prop) (u : DU K) : callvV P s as dst (.vl (.func (.yield b) #[] #[])) K u = sStripL true (as.map s.ev) (fun as => sYield b as s dst K u) .mk := by simp only [callvV, true_and]; rfl
theorem sOps_lkp (P : Program) (s : St) (K : St → Prop) (u : DU K) (os : List GO) (d : Nat) (ks : List Nat) (ok : Bool) (z : Value) (m key : Operand) : sOps P (⟨some d, none, .lkp ks ok z m key⟩ :: os) s K u = sStrip true (s.ev m) (fun m => lkpV true ks ok z m s.σ (s.ev key) (fun r => sOps P os (s.put (some d) r) K u) .mk) .mk := by
  simp only [sOps, sStrip, vops, vop, vgo, qv]
  rfl
theorem sOps_mkm (P : Program) (s : St) (K : St → Prop) (u : DU K) (os : List GO) (dd : Option Nat) : sOps P (⟨dd, none, .mkm⟩ :: os) s K u = sOps P os ((s.new [.mp []]).put dd (.mp s.n)) K u := _root_.id rfl
theorem sOps_mset (P : Program) (s : St) (K : St → Prop) (u : DU K) (os : List GO) (dd : Option Nat) (ks : List Nat) (m key x : Operand) : sOps P (⟨dd, none, .mset ks m key x⟩ :: os) s K u = sStrip true (s.ev m) (fun m => msetV ks s m (s.ev key) (s.ev x) (fun s' => sOps P os (s'.put dd (.vl undef)) K u) .mk) .mk := by
  simp only [sOps, sStrip, vops, vop, vgo]
  rfl
theorem msetV_mp (ks : List Nat) (s : St) (l : Nat) (key x : AV) (K : St → Prop) (u : DU K) : msetV ks s (.mp l) key x K u = msetB ks s l (look s.σ l) key x K u := by
  simp only [msetV, msetB]
theorem msetB_some (ks : List Nat) (s : St) (l : Nat) (es : List (Value × AV)) (key x : AV) (K : St → Prop) (u : DU K) : msetB ks s l (some (.mp es)) key x K u = sStrip true key (fun key => sStrip true x (fun x => sMset ks es key x (fun es' => K (s.set l (.mp es'))) .mk) .mk) .mk := _root_.id rfl
theorem lkpV_mp (c : Bool) (ks : List Nat) (ok : Bool) (z : Value) (l : Nat) (σ : List (Nat × Bx)) (key : AV) (K : AV → Prop) (u : DU K) : lkpV c ks ok z (.mp l) σ key K u = lkpB c ks ok z (look σ l) key K u := by
  simp only [lkpV, lkpB]
theorem lkpV_imp (c : Bool) (ks : List Nat) (ok : Bool) (z : Value) (es : List (Value × Value)) (σ : List (Nat × Bx)) (key : AV) (K : AV → Prop) (u : DU K) : lkpV c ks ok z (.imp es) σ key K u = sStrip c key (fun key => sLkp c ks ok z (es.map fun e => (e.1, AV.vl e.2)) key K u) .mk := _root_.id rfl
theorem lkpB_some (c : Bool) (ks : List Nat) (ok : Bool) (z : Value) (es : List (Value × AV)) (key : AV) (K : AV → Prop) (u : DU K) : lkpB c ks ok z (some (.mp es)) key K u = sStrip c key (fun key => sLkp c ks ok z es key K u) .mk := _root_.id rfl
theorem sDops_nil (P : Program) (n0 : Nat) (s : St) (K : St → Prop) (u : DU K) : sDops P n0 [] s K u = K s := _root_.id rfl
theorem sDops_mv (P : Program) (n0 : Nat) (s : St) (K : St → Prop) (u : DU K) (os : List GO) (d : Nat) (x : Operand) : sDops P n0 (⟨some d, none, .mv x⟩ :: os) s K u = sDops P n0 os (s.put (some d) (s.ev x)) K u := _root_.id rfl
theorem sDops_bin (P : Program) (n0 : Nat) (s : St) (K : St → Prop) (u : DU K) (os : List GO) (d : Nat) (op : BinOp) (x y : Operand) : sDops P n0 (⟨some d, none, .bin op x y⟩ :: os) s K u = sStrip true (s.ev x) (fun x => sStrip true (s.ev y) (fun y => sBin true op x y (fun r => sDops P n0 os (s.put (some d) r) K u) .mk) .mk) .mk := _root_.id rfl
theorem sDops_beq (P : Program) (n0 : Nat) (s : St) (K : St → Prop) (u : DU K) (os : List GO) (d : Nat) (b : Bool) (x y : Operand) : sDops P n0 (⟨some d, none, .beq b x y⟩ :: os) s K u = sStrip true (s.ev x) (fun x => sStrip true (s.ev y) (fun y => beqV b x y (fun r => sDops P n0 os (s.put (some d) r) K u) .mk) .mk) .mk := _root_.id rfl
theorem sDops_beqs (P : Program) (n0 : Nat) (s : St) (K : St → Prop) (u : DU K) (os : List GO) (d : Nat) (b : Bool) (ks : List Nat) (x y : Operand) : sDops P n0 (⟨some d, none, .beqs b ks x y⟩ :: os) s K u = sStrip true (s.ev x) (fun x => sStrip true (s.ev y) (fun y => beqsV true b ks x y (fun r => sDops P n0 os (s.put (some d) r) K u) .mk) .mk) .mk := _root_.id rfl
theorem sDops_un (P : Program) (n0 : Nat) (s : St) (K : St → Prop) (u : DU K) (os : List GO) (d : Nat) (op : UnOp) (x : Operand) : sDops P n0 (⟨some d, none, .un op x⟩ :: os) s K u = sStrip true (s.ev x) (fun x => unV true op x (fun r => sDops P n0 os (s.put (some d) r) K u) .mk) .mk := _root_.id rfl
theorem sDops_conv (P : Program) (n0 : Nat) (s : St) (K : St → Prop) (u : DU K) (os : List GO) (d : Nat) (q : IntKind) (x : Operand) : sDops P n0 (⟨some d, none, .conv q x⟩ :: os) s K u = sStrip true (s.ev x) (fun x => convV q x (fun r => sDops P n0 os (s.put (some d) r) K u) .mk) .mk := _root_.id rfl
theorem sDops_faddr (P : Program) (n0 : Nat) (s : St) (K : St → Prop) (u : DU K) (os : List GO) (d : Nat) (n : Nat) (x : Operand) : sDops P n0 (⟨some d, none, .faddr n x⟩ :: os) s K u = sStrip true (s.ev x) (fun x => faddrV true n x (fun r => sDops P n0 os (s.put (some d) r) K u) .mk) .mk := _root_.id rfl
theorem sDops_iaddr (P : Program) (n0 : Nat) (s : St) (K : St → Prop) (u : DU K) (os : List GO) (d : Nat) (n : Nat) (x i : Operand) : sDops P n0 (⟨some d, none, .iaddr n x i⟩ :: os) s K u = sStrip true (s.ev x) (fun x => sStrip true (s.ev i) (fun i => iaddrV true n x i (fun r => sDops P n0 os (s.put (some d) r) K u) .mk) .mk) .mk := _root_.id rfl
theorem sDops_aaddr (P : Program) (n0 : Nat) (s : St) (K : St → Prop) (u : DU K) (os : List GO) (d : Nat) (l n : Nat) (x i : Operand) : sDops P n0 (⟨some d, none, .aaddr l n x i⟩ :: os) s K u = sStrip true (s.ev x) (fun x => sStrip true (s.ev i) (fun i => aaddrV true l n x i (fun r => sDops P n0 os (s.put (some d) r) K u) .mk) .mk) .mk := _root_.id rfl
theorem sDops_idx (P : Program) (n0 : Nat) (s : St) (K : St → Prop) (u : DU K) (os : List GO) (d : Nat) (l n : Nat) (a : Bool) (x i : Operand) : sDops P n0 (⟨some d, none, .idx l n a x i⟩ :: os) s K u = sStrip true (s.ev x) (fun x => sStrip true (s.ev i) (fun i => idxV true l n a x i (fun r => sDops P n0 os (s.put (some d) r) K u) .mk) .mk) .mk := _root_.id rfl
theorem sDops_len (P : Program) (n0 : Nat) (s : St) (K : St → Prop) (u : DU K) (os : List GO) (d : Nat) (x : Operand) : sDops P n0 (⟨some d, none, .len x⟩ :: os) s K u = sStrip true (s.ev x) (fun x => lenV x (fun r => sDops P n0 os (s.put (some d) r) K u) .mk) .mk := _root_.id rfl
theorem sDops_slen (P : Program) (n0 : Nat) (s : St) (K : St → Prop) (u : DU K) (os : List GO) (d : Nat) (x : Operand) : sDops P n0 (⟨some d, none, .slen x⟩ :: os) s K u = sStrip true (s.ev x) (fun x => slenV x (fun r => sDops P n0 os (s.put (some d) r) K u) .mk) .mk := _root_.id rfl
theorem sDops_ext (P : Program) (n0 : Nat) (s : St) (K : St → Prop) (u : DU K) (os : List GO) (d : Nat) (i : Nat) (x : Operand) : sDops P n0 (⟨some d, none, .ext i x⟩ :: os) s K u = sStrip true (s.ev x) (fun x => extV true i x (fun r => sDops P n0 os (s.put (some d) r) K u) .mk) .mk := _root_.id rfl
theorem sDops_mm (P : Program) (n0 : Nat) (s : St) (K : St → Prop) (u : DU K) (os : List GO) (d : Nat) (b : Bool) (x y : Operand) : sDops P n0 (⟨some d, none, .mm b x y⟩ :: os) s K u = sStrip true (s.ev x) (fun x => sStrip true (s.ev y) (fun y => mmV b x y (fun r => sDops P n0 os (s.put (some d) r) K u) .mk) .mk) .mk := _root_.id rfl
theorem sDops_load (P : Program) (n0 : Nat) (s : St) (K : St → Prop) (u : DU K) (os : List GO) (d : Nat) (a : Bool) (n : Nat) (x : Operand) : sDops P n0 (⟨some d, none, .load a n x⟩ :: os) s K u = sStrip true (s.ev x) (fun x => loadV true a n x s.σ (fun r => sDops P n0 os (s.put (some d) r) K u) .mk) .mk := _root_.id rfl
theorem sDops_pick (P : Program) (n0 : Nat) (s : St) (K : St → Prop) (u : DU K) (os : List GO) (d : Nat) (x y z : Operand) : sDops P n0 (⟨some d, none, .pick x y z⟩ :: os) s K u = sStrip true (s.ev x) (fun x => pickV x (s.ev y) (s.ev z) true (fun r => sDops P n0 os (s.put (some d) r) K u) .mk) .mk := _root_.id rfl
theorem sDops_slc (P : Program) (n0 : Nat) (s : St) (K : St → Prop) (u : DU K) (os : List GO) (d : Nat) (sz : Nat) (x : Operand) (lo hi mx : Option Operand) : sDops P n0 (⟨some d, none, .slc sz x lo hi mx⟩ :: os) s K u = sStrip true (s.ev x) (fun x => slcV true sz s lo hi mx x (fun r => sDops P n0 os (s.put (some d) r) K u) .mk) .mk := _root_.id rfl
theorem sDops_mks (P : Program) (n0 : Nat) (s : St) (K : St → Prop) (u : DU K) (os : List GO) (d : Nat) (sz by' : Nat) (z : List Value) (x y : Operand) : sDops P n0 (⟨some d, none, .mks sz by' z x y⟩ :: os) s K u = sStrip true (s.ev x) (fun x => sStrip true (s.ev y) (fun y => mksV true by' x y (fun a b => sDops P n0 os ((s.new [.cs (zcells z b.toNat)]).put (some d) (.osl sz s.n 0 a.toNat b.toNat)) K u) .mk) .mk) .mk := _root_.id rfl
theorem sDops_alloc (P : Program) (n0 : Nat) (s : St) (K : St → Prop) (u : DU K) (os : List GO) (d : Nat) (z : List Value) : sDops P n0 (⟨some d, none, .alloc z⟩ :: os) s K u = sDops P n0 os ((s.new [.cs (z.map .vl)]).put (some d) (.ptr s.n 0)) K u := _root_.id rfl
theorem sDops_box (P : Program) (n0 : Nat) (s : St) (K : St → Prop) (u : DU K) (os : List GO) (d : Nat) (n : Nat) (x : Operand) : sDops P n0 (⟨some d, none, .box n x⟩ :: os) s K u = sStrip true (s.ev x) (fun x => boxV true n x (fun cs => sDops P n0 os ((s.new [.cs cs]).put (some d) (.ptr s.n 0)) K u) .mk) .mk := _root_.id rfl
theorem sDops_build (P : Program) (n0 : Nat) (s : St) (K : St → Prop) (u : DU K) (os : List GO) (d : Nat) (z : List Value) (ps : List (Nat × Nat × Operand)) : sDops P n0 (⟨some d, none, .build z ps⟩ :: os) s K u = sFill s true (z.map .vl) ps (fun cs => sDops P n0 os (s.put (some d) (.agg cs)) K u) .mk := _root_.id rfl
theorem sDops_bsl (P : Program) (n0 : Nat) (s : St) (K : St → Prop) (u : DU K) (os : List GO) (d : Nat) (sz len : Nat) (z : List Value) (ps : List (Nat × Nat × Operand)) : sDops P n0 (⟨some d, none, .bsl sz len z ps⟩ :: os) s K u = sFill s true (z.map .vl) ps (fun cs => sDops P n0 os ((s.new [.cs cs]).put (some d) (.osl sz s.n 0 len len)) K u) .mk := _root_.id rfl
theorem sDops_mkf (P : Program) (n0 : Nat) (s : St) (K : St → Prop) (u : DU K) (os : List GO) (d : Nat) (f : Fn) (a b : List Operand) : sDops P n0 (⟨some d, none, .mkf f a b⟩ :: os) s K u = sDops P n0 os (s.put (some d) (.fn f (a.map s.ev) (b.map s.ev))) K u := _root_.id rfl
theorem sDops_gd (P : Program) (n0 : Nat) (s : St) (K : St → Prop) (u : DU K) (os : List GO) (dd : Option Nat) (m : MO) (j : Nat) (w : Bool) : sDops P n0 (⟨dd, some (j, w), m⟩ :: os) s K u = gdV (s.get j) w (fun c => sGg P dd c m s (fun s' => sDops P n0 os s' K u) .mk) .mk := _root_.id rfl
theorem sDops_lkp (P : Program) (n0 : Nat) (s : St) (K : St → Prop) (u : DU K) (os : List GO) (d : Nat) (ks : List Nat) (ok : Bool) (z : Value) (m key : Operand) : sDops P n0 (⟨some d, none, .lkp ks ok z m key⟩ :: os) s K u = sStrip true (s.ev m) (fun m => lkpV true ks ok z m s.σ (s.ev key) (fun r => sDops P n0 os (s.put (some d) r) K u) .mk) .mk := by
  simp only [sDops, sStrip, vdops, vdop, vdo, qv]
  rfl
theorem sDops_callv (P : Program) (s : St) (K : St → Prop) (u : DU K) (os : List GO) (dd : Option Nat) (n0 : Nat) (f : Operand) (as : List Operand) : sDops P n0 (⟨dd, none, .callv f as⟩ :: os) s K u = sStrip true (s.ev f) (fun f => callvR P n0 s as dd f (fun s' => sDops P n0 os s' K u) .mk) .mk := by
  simp only [sDops, sStrip, vdops, vdop, vdo]
  rfl
theorem callvR_fn (P : Program) (n0 : Nat) (s : St) (as : List Operand) (dst : Option Nat) (n : FuncId) (first caps : List AV) (K : St → Prop) (u : DU K) : callvR P n0 s as dst (.fn (.func n) first caps) K u = sStripL true (as.map s.ev) (fun as => Ent P n ∧ sCallT P n0 n (first ++ as ++ caps) s dst K u) .mk := _root_.id rfl
theorem sDops_call (P : Program) (s : St) (K : St → Prop) (u : DU K) (os : List GO) (dd : Option Nat) (n0 : Nat) (f : Nat) (as : List Operand) : sDops P n0 (⟨dd, none, .call f as⟩ :: os) s K u = sStripL true (as.map s.ev) (fun as => sCallT P n0 f as s dd (fun s' => sDops P n0 os s' K u) .mk) .mk := _root_.id rfl
theorem sGg_mv (P : Program) (s : St) (K : St → Prop) (u : DU K) (dd : Option Nat) (c : Bool) (x : Operand) : sGg P dd c (.mv x) s K u = K (s.put dd (mkgd c (s.ev x))) := by simp only [sGg, vgg, qv, true_and]
theorem sGg_bin (P : Program) (s : St) (K : St → Prop) (u : DU K) (dd : Option Nat) (c : Bool) (op : BinOp) (x y : Operand) : sGg P dd c (.bin op x y) s K u = sStrip c (s.ev x) (fun x => sStrip c (s.ev y) (fun y => sBin c op x y (fun r => K (s.put dd (mkgd c r))) .mk) .mk) .mk := by
  simp only [sGg, vgg, qv, true_and]
  rfl
theorem sGg_beq (P : Program) (s : St) (K : St → Prop) (u : DU K) (dd : Option Nat) (c : Bool) (b : Bool) (x y : Operand) : sGg P dd c (.beq b x y) s K u = sStrip c (s.ev x) (fun x => sStrip c (s.ev y) (fun y => beqV b x y (fun r => K (s.put dd (mkgd c r))) .mk) .mk) .mk := by
  simp only [sGg, vgg, qv, true_and]
  rfl
theorem sGg_beqs (P : Program) (s : St) (K : St → Prop) (u : DU K) (dd : Option Nat) (c : Bool) (b : Bool) (ks : List Nat) (x y : Operand) : sGg P dd c (.beqs b ks x y) s K u = sStrip c (s.ev x) (fun x => sStrip c (s.ev y) (fun y => beqsV c b ks x y (fun r => K (s.put dd (mkgd c r))) .mk) .mk) .mk := by
  simp only [sGg, vgg, qv, true_and]
  rfl
theorem sGg_un (P : Program) (s : St) (K : St → Prop) (u : DU K) (dd : Option Nat) (c : Bool) (op : UnOp) (x : Operand) : sGg P dd c (.un op x) s K u = sStrip c (s.ev x) (fun x => unV c op x (fun r => K (s.put dd (mkgd c r))) .mk) .mk := by
  simp only [sGg, vgg, qv, true_and]
  rfl
theorem sGg_conv (P : Program) (s : St) (K : St → Prop) (u : DU K) (dd : Option Nat) (c : Bool) (q : IntKind) (x : Operand) : sGg P dd c (.conv q x) s K u = sStrip c (s.ev x) (fun x => convV q x (fun r => K (s.put dd (mkgd c r))) .mk) .mk := by
  simp only [sGg, vgg, qv, true_and]
  rfl
theorem sGg_faddr (P : Program) (s : St) (K : St → Prop) (u : DU K) (dd : Option Nat) (c : Bool) (n : Nat) (x : Operand) : sGg P dd c (.faddr n x) s K u = sStrip c (s.ev x) (fun x => faddrV c n x (fun r => K (s.put dd (mkgd c r))) .mk) .mk := by
  simp only [sGg, vgg, qv, true_and]
  rfl
theorem sGg_iaddr (P : Program) (s : St) (K : St → Prop) (u : DU K) (dd : Option Nat) (c : Bool) (n : Nat) (x i : Operand) : sGg P dd c (.iaddr n x i) s K u = sStrip c (s.ev x) (fun x => sStrip c (s.ev i) (fun i => iaddrV c n x i (fun r => K (s.put dd (mkgd c r))) .mk) .mk) .mk := by
  simp only [sGg, vgg, qv, true_and]
  rfl
theorem sGg_aaddr (P : Program) (s : St) (K : St → Prop) (u : DU K) (dd : Option Nat) (c : Bool) (l n : Nat) (x i : Operand) : sGg P dd c (.aaddr l n x i) s K u = sStrip c (s.ev x) (fun x => sStrip c (s.ev i) (fun i => aaddrV c l n x i (fun r => K (s.put dd (mkgd c r))) .mk) .mk) .mk := by
  simp only [sGg, vgg, qv, true_and]
  rfl
theorem sGg_idx (P : Program) (s : St) (K : St → Prop) (u : DU K) (dd : Option Nat) (c : Bool) (l n : Nat) (a : Bool) (x i : Operand) : sGg P dd c (.idx l n a x i) s K u = sStrip c (s.ev x) (fun x => sStrip c (s.ev i) (fun i => idxV c l n a x i (fun r => K (s.put dd (mkgd c r))) .mk) .mk) .mk := by
  simp only [sGg, vgg, qv, true_and]
  rfl
theorem sGg_len (P : Program) (s : St) (K : St → Prop) (u : DU K) (dd : Option Nat) (c : Bool) (x : Operand) : sGg P dd c (.len x) s K u = sStrip c (s.ev x) (fun x => lenV x (fun r => K (s.put dd (mkgd c r))) .mk) .mk := by
  simp only [sGg, vgg, qv, true_and]
  rfl
theorem sGg_slen (P : Program) (s : St) (K : St → Prop) (u : DU K) (dd : Option Nat) (c : Bool) (x : Operand) : sGg P dd c (.slen x) s K u = sStrip c (s.ev x) (fun x => slenV x (fun r => K (s.put dd (mkgd c r))) .mk) .mk := by
  simp only [sGg, vgg, qv, true_and]
  rfl
theorem sGg_ext (P : Program) (s : St) (K : St → Prop) (u : DU K) (dd : Option Nat) (c : Bool) (i : Nat) (x : Operand) : sGg P dd c (.ext i x) s K u = sStrip c (s.ev x) (fun x => extV c i x (fun r => K (s.put dd (mkgd c r))) .mk) .mk := by
  simp only [sGg, vgg, qv, true_and]
  rfl
theorem sGg_mm (P : Program) (s : St) (K : St → Prop) (u : DU K) (dd : Option Nat) (c : Bool) (b : Bool) (x y : Operand) : sGg P dd c (.mm b x y) s K u = sStrip c (s.ev x) (fun x => sStrip c (s.ev y) (fun y => mmV b x y (fun r => K (s.put dd (mkgd c r))) .mk) .mk) .mk := by
  simp only [sGg, vgg, qv, true_and]
  rfl
theorem sGg_load (P : Program) (s : St) (K : St → Prop) (u : DU K) (dd : Option Nat) (c : Bool) (a : Bool) (n : Nat) (x : Operand) : sGg P dd c (.load a n x) s K u = sStrip c (s.ev x) (fun x => loadV c a n x s.σ (fun r => K (s.put dd (mkgd c r))) .mk) .mk := by
  simp only [sGg, vgg, qv, true_and, sStrip]
  rfl
theorem sGg_pick (P : Program) (s : St) (K : St → Prop) (u : DU K) (dd : Option Nat) (c : Bool) (x y z : Operand) : sGg P dd c (.pick x y z) s K u = sStrip c (s.ev x) (fun x => pickV x (s.ev y) (s.ev z) c (fun r => K (s.put dd (mkgd c r))) .mk) .mk := by
  simp only [sGg, vgg, qv, true_and, sStrip]
  rfl
theorem sGg_slc (P : Program) (s : St) (K : St → Prop) (u : DU K) (dd : Option Nat) (c : Bool) (sz : Nat) (x : Operand) (lo hi mx : Option Operand) : sGg P dd c (.slc sz x lo hi mx) s K u = sStrip c (s.ev x) (fun x => slcV c sz s lo hi mx x (fun r => K (s.put dd (mkgd c r))) .mk) .mk := by
  simp only [sGg, vgg, qv, true_and]
  rfl
theorem sGg_alloc (P : Program) (s : St) (K : St → Prop) (u : DU K) (dd : Option Nat) (c : Bool) (z : List Value) : sGg P dd c (.alloc z) s K u = bif c then K ((s.new [.cs (z.map .vl)]).put dd (.ptr s.n 0)) else K (s.put dd (.gd false .any)) := _root_.id rfl
theorem sGg_box (P : Program) (s : St) (K : St → Prop) (u : DU K) (dd : Option Nat) (c : Bool) (n : Nat) (x : Operand) : sGg P dd c (.box n x) s K u = bif c then sStrip true (s.ev x) (fun x => boxV true n x (fun cs => K ((s.new [.cs cs]).put dd (.ptr s.n 0))) .mk) .mk else K (s.put dd (.gd false .any)) := _root_.id rfl
theorem sGg_bsl (P : Program) (s : St) (K : St → Prop) (u : DU K) (dd : Option Nat) (c : Bool) (sz len : Nat) (z : List Value) (ps : List (Nat × Nat × Operand)) : sGg P dd c (.bsl sz len z ps) s K u = bif c then sFill s true (z.map .vl) ps (fun cs => K ((s.new [.cs cs]).put dd (.osl sz s.n 0 len len))) .mk else K (s.put dd (.gd false .any)) := _root_.id rfl
theorem sGg_build (P : Program) (s : St) (K : St → Prop) (u : DU K) (dd : Option Nat) (c : Bool) (z : List Value) (ps : List (Nat × Nat × Operand)) : sGg P dd c (.build z ps) s K u = sFill s c (z.map .vl) ps (fun cs => K (s.put dd (mkgd c (.agg cs)))) .mk := by
  simp only [sGg, vgg, qv, true_and]
  rfl
theorem sGg_mkf (P : Program) (s : St) (K : St → Prop) (u : DU K) (dd : Option Nat) (c : Bool) (f : Fn) (a b : List Operand) : sGg P dd c (.mkf f a b) s K u = K (s.put dd (mkgd c (.fn f (a.map s.ev) (b.map s.ev)))) := by simp only [sGg, vgg, qv, true_and]
theorem sGg_lkp (P : Program) (s : St) (K : St → Prop) (u : DU K) (dd : Option Nat) (c : Bool) (ks : List Nat) (ok : Bool) (z : Value) (m key : Operand) : sGg P dd c (.lkp ks ok z m key) s K u = sStrip c (s.ev m) (fun m => lkpV c ks ok z m s.σ (s.ev key) (fun r => K (s.put dd (mkgd c r))) .mk) .mk := by
  simp only [sGg, vgg, qv, true_and, sStrip]
  rfl
theorem sGg_call (P : Program) (s : St) (K : St → Prop) (u : DU K) (dd : Option Nat) (c : Bool) (f : Nat) (as : List Operand) : sGg P dd c (.call f as) s K u = sStripL c (as.map s.ev) (fun as => sCallG P f c as s dd K u) .mk := _root_.id rfl
theorem sGv_call (P : Program) (s : St) (K : St → Prop) (u : DU K) (dd : Option Nat) (c : Bool) (f : Nat) (as : List Operand) : sGv P dd c (.call f as) s K u = sStripL c (as.map s.ev) (fun as => sCallV P f c as s dd K u) .mk := _root_.id rfl
theorem sGv_mv (P : Program) (s : St) (K : St → Prop) (u : DU K) (dd : Option Nat) (c : Bool) (x : Operand) : sGv P dd c (.mv x) s K u = sGg P dd c (.mv x) s K u := _root_.id rfl
theorem sGv_pick (P : Program) (s : St) (K : St → Prop) (u : DU K) (dd : Option Nat) (c : Bool) (c' a b : Operand) : sGv P dd c (.pick c' a b) s K u = sGg P dd c (.pick c' a b) s K u := _root_.id rfl
theorem sGv_alloc (P : Program) (s : St) (K : St → Prop) (u : DU K) (dd : Option Nat) (c : Bool) (z : List Value) : sGv P dd c (.alloc z) s K u = sGg P dd c (.alloc z) s K u := _root_.id rfl
theorem sGv_box (P : Program) (s : St) (K : St → Prop) (u : DU K) (dd : Option Nat) (c : Bool) (n : Nat) (x : Operand) : sGv P dd c (.box n x) s K u = sGg P dd c (.box n x) s K u := _root_.id rfl
theorem sGv_build (P : Program) (s : St) (K : St → Prop) (u : DU K) (dd : Option Nat) (c : Bool) (z : List Value) (ps : List (Nat × Nat × Operand)) : sGv P dd c (.build z ps) s K u = sGg P dd c (.build z ps) s K u := _root_.id rfl
theorem sGv_bsl (P : Program) (s : St) (K : St → Prop) (u : DU K) (dd : Option Nat) (c : Bool) (sz len : Nat) (z : List Value) (ps : List (Nat × Nat × Operand)) : sGv P dd c (.bsl sz len z ps) s K u = sGg P dd c (.bsl sz len z ps) s K u := _root_.id rfl
theorem sGv_load (P : Program) (s : St) (K : St → Prop) (u : DU K) (dd : Option Nat) (c : Bool) (a : Bool) (n : Nat) (x : Operand) : sGv P dd c (.load a n x) s K u = sGg P dd c (.load a n x) s K u := _root_.id rfl
theorem sGv_store (P : Program) (s : St) (K : St → Prop) (u : DU K) (dd : Option Nat) (c : Bool) (n : Nat) (a x : Operand) : sGv P dd c (.store n a x) s K u = sGg P dd c (.store n a x) s K u := _root_.id rfl
theorem sGv_bin (P : Program) (s : St) (K : St → Prop) (u : DU K) (dd : Option Nat) (c : Bool) (o : BinOp) (x y : Operand) : sGv P dd c (.bin o x y) s K u = sGg P dd c (.bin o x y) s K u := _root_.id rfl
theorem sGv_beq (P : Program) (s : St) (K : St → Prop) (u : DU K) (dd : Option Nat) (c : Bool) (n : Bool) (x y : Operand) : sGv P dd c (.beq n x y) s K u = sGg P dd c (.beq n x y) s K u := _root_.id rfl
theorem sGv_un (P : Program) (s : St) (K : St → Prop) (u : DU K) (dd : Option Nat) (c : Bool) (o : UnOp) (x : Operand) : sGv P dd c (.un o x) s K u = sGg P dd c (.un o x) s K u := _root_.id rfl
theorem sGv_conv (P : Program) (s : St) (K : St → Prop) (u : DU K) (dd : Option Nat) (c : Bool) (k : IntKind) (x : Operand) : sGv P dd c (.conv k x) s K u = sGg P dd c (.conv k x) s K u := _root_.id rfl
theorem sGv_faddr (P : Program) (s : St) (K : St → Prop) (u : DU K) (dd : Option Nat) (c : Bool) (n : Nat) (x : Operand) : sGv P dd c (.faddr n x) s K u = sGg P dd c (.faddr n x) s K u := _root_.id rfl
theorem sGv_iaddr (P : Program) (s : St) (K : St → Prop) (u : DU K) (dd : Option Nat) (c : Bool) (n : Nat) (x y : Operand) : sGv P dd c (.iaddr n x y) s K u = sGg P dd c (.iaddr n x y) s K u := _root_.id rfl
theorem sGv_aaddr (P : Program) (s : St) (K : St → Prop) (u : DU K) (dd : Option Nat) (c : Bool) (l n : Nat) (x y : Operand) : sGv P dd c (.aaddr l n x y) s K u = sGg P dd c (.aaddr l n x y) s K u := _root_.id rfl
theorem sGv_idx (P : Program) (s : St) (K : St → Prop) (u : DU K) (dd : Option Nat) (c : Bool) (l n : Nat) (a : Bool) (x y : Operand) : sGv P dd c (.idx l n a x y) s K u = sGg P dd c (.idx l n a x y) s K u := _root_.id rfl
theorem sGv_len (P : Program) (s : St) (K : St → Prop) (u : DU K) (dd : Option Nat) (c : Bool) (x : Operand) : sGv P dd c (.len x) s K u = sGg P dd c (.len x) s K u := _root_.id rfl
theorem sGv_slen (P : Program) (s : St) (K : St → Prop) (u : DU K) (dd : Option Nat) (c : Bool) (x : Operand) : sGv P dd c (.slen x) s K u = sGg P dd c (.slen x) s K u := _root_.id rfl
theorem sGv_ext (P : Program) (s : St) (K : St → Prop) (u : DU K) (dd : Option Nat) (c : Bool) (n : Nat) (x : Operand) : sGv P dd c (.ext n x) s K u = sGg P dd c (.ext n x) s K u := _root_.id rfl
theorem sGv_mkf (P : Program) (s : St) (K : St → Prop) (u : DU K) (dd : Option Nat) (c : Bool) (f : Fn) (a b : List Operand) : sGv P dd c (.mkf f a b) s K u = sGg P dd c (.mkf f a b) s K u := _root_.id rfl
theorem sGv_mm (P : Program) (s : St) (K : St → Prop) (u : DU K) (dd : Option Nat) (c : Bool) (m : Bool) (x y : Operand) : sGv P dd c (.mm m x y) s K u = sGg P dd c (.mm m x y) s K u := _root_.id rfl
theorem sGv_beqs (P : Program) (s : St) (K : St → Prop) (u : DU K) (dd : Option Nat) (c : Bool) (n : Bool) (ks : List Nat) (x y : Operand) : sGv P dd c (.beqs n ks x y) s K u = sGg P dd c (.beqs n ks x y) s K u := _root_.id rfl
theorem sGv_mks (P : Program) (s : St) (K : St → Prop) (u : DU K) (dd : Option Nat) (c : Bool) (n m : Nat) (z : List Value) (x y : Operand) : sGv P dd c (.mks n m z x y) s K u = sGg P dd c (.mks n m z x y) s K u := _root_.id rfl
theorem sGv_slc (P : Program) (s : St) (K : St → Prop) (u : DU K) (dd : Option Nat) (c : Bool) (n : Nat) (x : Operand) (lo hi mx : Option Operand) : sGv P dd c (.slc n x lo hi mx) s K u = sGg P dd c (.slc n x lo hi mx) s K u := _root_.id rfl
theorem sGv_lkp (P : Program) (s : St) (K : St → Prop) (u : DU K) (dd : Option Nat) (c : Bool) (ks : List Nat) (ok : Bool) (z : Value) (m key : Operand) : sGv P dd c (.lkp ks ok z m key) s K u = sGg P dd c (.lkp ks ok z m key) s K u := _root_.id rfl
theorem sStrip_imp (c : Bool) (K : AV → Prop) (u : DU K) (x : List (Value × Value)) : sStrip c (.imp x) K u = K (.imp x) := by simp only [sStrip, strip]
theorem mkgd_imp (c : Bool) (x : List (Value × Value)) : mkgd c (.imp x) = .gd c (.imp x) := _root_.id rfl
theorem sStrip_vl (c : Bool) (K : AV → Prop) (u : DU K) (x : Value) : sStrip c (.vl x) K u = K (.vl x) := by simp only [sStrip, strip]
theorem mkgd_vl (c : Bool) (x : Value) : mkgd c (.vl x) = .gd c (.vl x) := _root_.id rfl
theorem sStrip_sl (c : Bool) (K : AV → Prop) (u : DU K) (x : List (List AV)) : sStrip c (.sl x) K u = K (.sl x) := by simp only [sStrip, strip]
theorem mkgd_sl (c : Bool) (x : List (List AV)) : mkgd c (.sl x) = .gd c (.sl x) := _root_.id rfl
theorem sStrip_dp (c : Bool) (K : AV → Prop) (u : DU K) (x : List AV) : sStrip c (.dp x) K u = K (.dp x) := by simp only [sStrip, strip]
theorem mkgd_dp (c : Bool) (x : List AV) : mkgd c (.dp x) = .gd c (.dp x) := _root_.id rfl
theorem sStrip_agg (c : Bool) (K : AV → Prop) (u : DU K) (x : List AV) : sStrip c (.agg x) K u = K (.agg x) := by simp only [sStrip, strip]
theorem mkgd_agg (c : Bool) (x : List AV) : mkgd c (.agg x) = .gd c (.agg x) := _root_.id rfl
theorem sStrip_tup (c : Bool) (K : AV → Prop) (u : DU K) (x : List AV) : sStrip c (.tup x) K u = K (.tup x) := by simp only [sStrip, strip]
theorem mkgd_tup (c : Bool) (x : List AV) : mkgd c (.tup x) = .gd c (.tup x) := _root_.id rfl
theorem sStrip_ptr (c : Bool) (K : AV → Prop) (u : DU K) (a b : Nat) : sStrip c (.ptr a b) K u = K (.ptr a b) := by simp only [sStrip, strip]
theorem mkgd_ptr (c : Bool) (a b : Nat) : mkgd c (.ptr a b) = .gd c (.ptr a b) := _root_.id rfl
theorem sStrip_fn (c : Bool) (K : AV → Prop) (u : DU K) (f : Fn) (a b : List AV) : sStrip c (.fn f a b) K u = K (.fn f a b) := by simp only [sStrip, strip]
theorem mkgd_fn (c : Bool) (f : Fn) (a b : List AV) : mkgd c (.fn f a b) = .gd c (.fn f a b) := _root_.id rfl
theorem sStrip_osl (c : Bool) (K : AV → Prop) (u : DU K) (a b e f h : Nat) : sStrip c (.osl a b e f h) K u = K (.osl a b e f h) := by simp only [sStrip, strip]
theorem mkgd_osl (c : Bool) (a b e f h : Nat) : mkgd c (.osl a b e f h) = .gd c (.osl a b e f h) := _root_.id rfl
theorem sStrip_mp (c : Bool) (K : AV → Prop) (u : DU K) (a : Nat) : sStrip c (.mp a) K u = K (.mp a) := by simp only [sStrip, strip]
theorem mkgd_mp (c : Bool) (a : Nat) : mkgd c (.mp a) = .gd c (.mp a) := _root_.id rfl
theorem sStrip_ce (c : Bool) (K : AV → Prop) (u : DU K)  : sStrip c .ce K u = K .ce := by simp only [sStrip, strip]
theorem mkgd_ce (c : Bool)  : mkgd c .ce = .gd c .ce := _root_.id rfl
theorem sStrip_gd (c d : Bool) (x : AV) (K : AV → Prop) (u : DU K) : sStrip c (.gd d x) K u = ((c = true → d = true) ∧ sStrip c x K u) := by simp only [sStrip, strip]
theorem mkgd_gd (c d : Bool) (x : AV) : mkgd c (.gd d x) = .gd (c && d) x := _root_.id rfl
theorem sStripL_nil (c : Bool) (K : List AV → Prop) (u : DU K) : sStripL c [] K u = K [] := _root_.id rfl
theorem sStripL_cons (c : Bool) (x : AV) (xs : List AV) (K : List AV → Prop) (u : DU K) : sStripL c (x :: xs) K u = sStrip c x (fun y => sStripL c xs (fun ys => K (y :: ys)) .mk) .mk := _root_.id rfl
theorem gdV_t (p : Bool) (K : Bool → Prop) (u : DU K) : gdV (.vl (.bool p)) true K u = K p := _root_.id rfl
theorem gdV_f (p : Bool) (K : Bool → Prop) (u : DU K) : gdV (.vl (.bool p)) false K u = K (!p) := _root_.id rfl
theorem gdV_gt (d p : Bool) (K : Bool → Prop) (u : DU K) : gdV (.gd d (.vl (.bool p))) true K u = K (d && p) := _root_.id rfl
theorem gdV_gf (d p : Bool) (K : Bool → Prop) (u : DU K) : gdV (.gd d (.vl (.bool p))) false K u = K (d && !p) := _root_.id rfl
theorem pickV_or (c : Bool) (K : AV → Prop) (u : DU K) (p : Bool) (y : AV) : pickV (.vl (.bool p)) (.vl (.bool true)) y c K u = sStrip (c && !p) y (fun y => orV p y K u) .mk := by
  simp only [pickV, strip, sStrip]
  congr 1
  funext y
  cases y <;> try rfl
  rename_i v
  cases v <;> try rfl
  all_goals (simp [orV])
theorem pickV_and (c : Bool) (K : AV → Prop) (u : DU K) (p : Bool) (y : AV) : pickV (.vl (.bool p)) y (.vl (.bool false)) c K u = sStrip (c && p) y (fun y => andV p y K u) .mk := by
  simp only [pickV, strip, sStrip]
  congr 1
  funext y
  cases y <;> try rfl
  rename_i v
  cases v <;> try rfl
  all_goals (simp [andV])
theorem orV_b (K : AV → Prop) (u : DU K) (p q : Bool) : orV p (.vl (.bool q)) K u = K (.vl (.bool (p || q))) := _root_.id rfl
theorem andV_b (K : AV → Prop) (u : DU K) (p q : Bool) : andV p (.vl (.bool q)) K u = K (.vl (.bool (p && q))) := _root_.id rfl
theorem sBin_add (c : Bool) (K : AV → Prop) (u : DU K) (a b : Int) : sBin c .add (.vl (.int .i64 a)) (.vl (.int .i64 b)) K u = ((c = true → InR (a + b)) ∧ K (.vl (.int .i64 (a + b)))) := by simp [sBin, binV, binInt]
theorem sBin_add_u64 (c : Bool) (K : AV → Prop) (u : DU K) (a b : Int) : sBin c .add (.vl (.int .u64 a)) (.vl (.int .u64 b)) K u = K (.vl (.int .u64 (IntKind.u64.wrap (a + b)))) := by simp [sBin, binV, binInt]
theorem sBin_add_u32 (c : Bool) (K : AV → Prop) (u : DU K) (a b : Int) : sBin c .add (.vl (.int .u32 a)) (.vl (.int .u32 b)) K u = K (.vl (.int .u32 (IntKind.u32.wrap (a + b)))) := by simp [sBin, binV, binInt]
theorem sBin_add_u8 (c : Bool) (K : AV → Prop) (u : DU K) (a b : Int) : sBin c .add (.vl (.int .u8 a)) (.vl (.int .u8 b)) K u = K (.vl (.int .u8 (IntKind.u8.wrap (a + b)))) := by simp [sBin, binV, binInt]
theorem sBin_sub (c : Bool) (K : AV → Prop) (u : DU K) (a b : Int) : sBin c .sub (.vl (.int .i64 a)) (.vl (.int .i64 b)) K u = ((c = true → InR (a - b)) ∧ K (.vl (.int .i64 (a - b)))) := by simp [sBin, binV, binInt]
theorem sBin_sub_u64 (c : Bool) (K : AV → Prop) (u : DU K) (a b : Int) : sBin c .sub (.vl (.int .u64 a)) (.vl (.int .u64 b)) K u = K (.vl (.int .u64 (IntKind.u64.wrap (a - b)))) := by simp [sBin, binV, binInt]
theorem sBin_sub_u32 (c : Bool) (K : AV → Prop) (u : DU K) (a b : Int) : sBin c .sub (.vl (.int .u32 a)) (.vl (.int .u32 b)) K u = K (.vl (.int .u32 (IntKind.u32.wrap (a - b)))) := by simp [sBin, binV, binInt]
theorem sBin_sub_u8 (c : Bool) (K : AV → Prop) (u : DU K) (a b : Int) : sBin c .sub (.vl (.int .u8 a)) (.vl (.int .u8 b)) K u = K (.vl (.int .u8 (IntKind.u8.wrap (a - b)))) := by simp [sBin, binV, binInt]
theorem sBin_mul (c : Bool) (K : AV → Prop) (u : DU K) (a b : Int) : sBin c .mul (.vl (.int .i64 a)) (.vl (.int .i64 b)) K u = ((c = true → InR (a * b)) ∧ K (.vl (.int .i64 (a * b)))) := by simp [sBin, binV, binInt]
theorem sBin_mul_u64 (c : Bool) (K : AV → Prop) (u : DU K) (a b : Int) : sBin c .mul (.vl (.int .u64 a)) (.vl (.int .u64 b)) K u = K (.vl (.int .u64 (IntKind.u64.wrap (a * b)))) := by simp [sBin, binV, binInt]
theorem sBin_mul_u32 (c : Bool) (K : AV → Prop) (u : DU K) (a b : Int) : sBin c .mul (.vl (.int .u32 a)) (.vl (.int .u32 b)) K u = K (.vl (.int .u32 (IntKind.u32.wrap (a * b)))) := by simp [sBin, binV, binInt]
theorem sBin_mul_u8 (c : Bool) (K : AV → Prop) (u : DU K) (a b : Int) : sBin c .mul (.vl (.int .u8 a)) (.vl (.int .u8 b)) K u = K (.vl (.int .u8 (IntKind.u8.wrap (a * b)))) := by simp [sBin, binV, binInt]
theorem sBin_quo (c : Bool) (K : AV → Prop) (u : DU K) (a b : Int) : sBin c .quo (.vl (.int .i64 a)) (.vl (.int .i64 b)) K u = ((c = true → b ≠ 0 ∧ InR (a.tdiv b)) ∧ K (.vl (.int .i64 (a.tdiv b)))) := by simp [sBin, binV, binInt]
theorem sBin_quo_u64 (c : Bool) (K : AV → Prop) (u : DU K) (a b : Int) : sBin c .quo (.vl (.int .u64 a)) (.vl (.int .u64 b)) K u = ((c = true → b ≠ 0) ∧ K (.vl (.int .u64 (IntKind.u64.wrap (a.tdiv b))))) := by simp [sBin, binV, binInt]
theorem sBin_rem (c : Bool) (K : AV → Prop) (u : DU K) (q : IntKind) (a b : Int) : sBin c .rem (.vl (.int q a)) (.vl (.int q b)) K u = ((c = true → b ≠ 0) ∧ K (.vl (.int q (a.tmod b)))) := by simp [sBin, binV, binInt]
theorem sBin_and (c : Bool) (K : AV → Prop) (u : DU K) (q : IntKind) (a b : Int) : sBin c .and (.vl (.int q a)) (.vl (.int q b)) K u = K (.vl (.int q (bitv .and q a b))) := by simp [sBin, binV, binInt]
theorem sBin_or (c : Bool) (K : AV → Prop) (u : DU K) (q : IntKind) (a b : Int) : sBin c .or (.vl (.int q a)) (.vl (.int q b)) K u = K (.vl (.int q (bitv .or q a b))) := by simp [sBin, binV, binInt]
theorem sBin_xor (c : Bool) (K : AV → Prop) (u : DU K) (q : IntKind) (a b : Int) : sBin c .xor (.vl (.int q a)) (.vl (.int q b)) K u = K (.vl (.int q (bitv .xor q a b))) := by simp [sBin, binV, binInt]
theorem sBin_andNot (c : Bool) (K : AV → Prop) (u : DU K) (q : IntKind) (a b : Int) : sBin c .andNot (.vl (.int q a)) (.vl (.int q b)) K u = K (.vl (.int q (bitv .andNot q a b))) := by simp [sBin, binV, binInt]
theorem sBin_shl (c : Bool) (K : AV → Prop) (u : DU K) (q p : IntKind) (a b : Int) : sBin c .shl (.vl (.int q a)) (.vl (.int p b)) K u = ((c = true → 0 ≤ b) ∧ K (.vl (.int q (q.wrap (a * 2 ^ (min b.toNat q.bits)))))) := by simp [sBin, binV]
theorem sBin_shr (c : Bool) (K : AV → Prop) (u : DU K) (q p : IntKind) (a b : Int) : sBin c .shr (.vl (.int q a)) (.vl (.int p b)) K u = ((c = true → 0 ≤ b) ∧ K (.vl (.int q (a.fdiv (2 ^ (min b.toNat q.bits)))))) := by simp [sBin, binV]
theorem sBin_eql (c : Bool) (K : AV → Prop) (u : DU K) (q : IntKind) (a b : Int) : sBin c .eql (.vl (.int q a)) (.vl (.int q b)) K u = K (.vl (.bool (decide (a = b)))) := by simp [sBin, binV, binInt]
theorem sBin_neq (c : Bool) (K : AV → Prop) (u : DU K) (q : IntKind) (a b : Int) : sBin c .neq (.vl (.int q a)) (.vl (.int q b)) K u = K (.vl (.bool (!decide (a = b)))) := by simp [sBin, binV, binInt]
theorem sBin_lss (c : Bool) (K : AV → Prop) (u : DU K) (q : IntKind) (a b : Int) : sBin c .lss (.vl (.int q a)) (.vl (.int q b)) K u = K (.vl (.bool (decide (a < b)))) := by simp [sBin, binV, binInt]
theorem sBin_leq (c : Bool) (K : AV → Prop) (u : DU K) (q : IntKind) (a b : Int) : sBin c .leq (.vl (.int q a)) (.vl (.int q b)) K u = K (.vl (.bool (decide (a ≤ b)))) := by simp [sBin, binV, binInt]
theorem sBin_gtr (c : Bool) (K : AV → Prop) (u : DU K) (q : IntKind) (a b : Int) : sBin c .gtr (.vl (.int q a)) (.vl (.int q b)) K u = K (.vl (.bool (decide (b < a)))) := by simp [sBin, binV, binInt]
theorem sBin_geq (c : Bool) (K : AV → Prop) (u : DU K) (q : IntKind) (a b : Int) : sBin c .geq (.vl (.int q a)) (.vl (.int q b)) K u = K (.vl (.bool (decide (b ≤ a)))) := by simp [sBin, binV, binInt]
theorem sBin_seql (c : Bool) (K : AV → Prop) (u : DU K) (a b : ByteArray) : sBin c .eql (.vl (.string a)) (.vl (.string b)) K u = K (.vl (.bool (a.toList == b.toList))) := by simp [sBin, binV]
theorem sBin_sneq (c : Bool) (K : AV → Prop) (u : DU K) (a b : ByteArray) : sBin c .neq (.vl (.string a)) (.vl (.string b)) K u = K (.vl (.bool (!(a.toList == b.toList)))) := by simp [sBin, binV]
theorem loadV_dp (c : Bool) (K : AV → Prop) (u : DU K) (a : Bool) (n : Nat) (cs : List AV) (σ : List (Nat × Bx)) : loadV c a n (.dp cs) σ K u = ((c = true → n ≤ cs.length) ∧ K (if a then .agg (cs.take n) else cs.headD .any)) := _root_.id rfl
theorem loadV_ptr (c : Bool) (K : AV → Prop) (u : DU K) (a : Bool) (n l off : Nat) (σ : List (Nat × Bx)) : loadV c a n (.ptr l off) σ K u = loadB c a n off (look σ l) K u := _root_.id rfl
theorem loadB_some (c : Bool) (K : AV → Prop) (u : DU K) (a : Bool) (n off : Nat) (cs : List AV) : loadB c a n off (some (.cs cs)) K u = ((c = true → off + n ≤ cs.length) ∧ K (if a then .agg ((cs.drop off).take n) else (cs.drop off).headD .any)) := _root_.id rfl
theorem sStore_ptr (n l off : Nat) (x : AV) (s : St) (K : St → Prop) (u : DU K) : sStore n (.ptr l off) x s K u = storeB n l off x s (look s.σ l) K u := _root_.id rfl
theorem storeB_some (n l off : Nat) (x : AV) (s : St) (cs : List AV) (K : St → Prop) (u : DU K) : storeB n l off x s (some (.cs cs)) K u = ((x.cells.length = n ∧ off + n ≤ cs.length ∧ x.cells.all AV.isCell = true) ∧ K (s.set l (.cs (cs.take off ++ x.cells ++ cs.drop (off + n))))) := _root_.id rfl
theorem slcV_sl (c : Bool) (K : AV → Prop) (u : DU K) (sz : Nat) (s : St) (lo hi mx : Option Operand) (es : List (List AV)) : slcV c sz s lo hi mx (.sl es) K u = sSlcB s c lo 0 (fun a => sSlcB s c hi es.length (fun b => sSlcB s c mx es.length (fun m => (c = true → (∀ e ∈ es, e.length = sz) ∧ 0 ≤ a ∧ a ≤ b ∧ b ≤ m ∧ m ≤ es.length) ∧ K (.sl ((es.take b.toNat).drop a.toNat))) .mk) .mk) .mk := _root_.id rfl
theorem slcV_osl (c : Bool) (K : AV → Prop) (u : DU K) (sz : Nat) (s : St) (lo hi mx : Option Operand) (l off len cap : Nat) : slcV c sz s lo hi mx (.osl sz l off len cap) K u = sSlcB s c lo 0 (fun a => sSlcB s c hi len (fun b => sSlcB s c mx len (fun m => (c = true → 0 ≤ a ∧ a ≤ b ∧ b ≤ m ∧ m ≤ len) ∧ K (.osl sz l (off + a.toNat * sz) (b - a).toNat (b - a).toNat)) .mk) .mk) .mk := by simp [slcV, sSlcB]
theorem sSlcB_n (s : St) (c : Bool) (d : Int) (K : Int → Prop) (u : DU K) : sSlcB s c none d K u = K d := _root_.id rfl
theorem sSlcB_s (s : St) (c : Bool) (x : Operand) (d : Int) (K : Int → Prop) (u : DU K) : sSlcB s c (some x) d K u = sStrip c (s.ev x) (fun y => asInt y K u) .mk := _root_.id rfl
theorem asInt_i (q : IntKind) (i : Int) (K : Int → Prop) (u : DU K) : asInt (.vl (.int q i)) K u = K i := _root_.id rfl
theorem mksV_i (c : Bool) (by' : Nat) (p q : IntKind) (a b : Int) (K : Int → Int → Prop) (u : DU K) : mksV c by' (.vl (.int p a)) (.vl (.int q b)) K u = ((c = true → 0 ≤ a ∧ a ≤ b ∧ (by' : Int) * b ≤ 281474976710656 ∧ b ≤ 9223372036854775807) ∧ K a b) := _root_.id rfl
theorem sNews_sl (s : St) (sz : Nat) (es : List (List AV)) (K : Nat → List AV → Prop) (u : DU K) : sNews s sz (.sl es) K u = ((∀ e ∈ es, e.length = sz) ∧ K es.length es.flatten) := _root_.id rfl
theorem sNews_osl (s : St) (sz l off len cap : Nat) (K : Nat → List AV → Prop) (u : DU K) : sNews s sz (.osl sz l off len cap) K u = newsB sz off len (look s.σ l) K u := by
  simp only [sNews, newsV, newsB]
  split <;> simp_all
theorem newsB_some (sz off len : Nat) (cs : List AV) (K : Nat → List AV → Prop) (u : DU K) : newsB sz off len (some (.cs cs)) K u = ((off + len * sz ≤ cs.length) ∧ K len ((cs.drop off).take (len * sz))) := _root_.id rfl
theorem sNews_nil (s : St) (sz : Nat) (K : Nat → List AV → Prop) (u : DU K) : sNews s sz (.vl (.slice none 0 0)) K u = K 0 [] := by simp [sNews, newsV, asSl]
theorem sApp_nil (s : St) (sz by' m : Nat) (news : List AV) (K : St → AV → Prop) (u : DU K) : sApp s sz by' (.vl (.slice none 0 0)) m news K u = ((m ≤ maxLen ∧ m * by' ≤ 140737488355328) ∧ K (s.new [.cs news]) (.osl sz s.n 0 m m)) := _root_.id rfl
theorem sApp_osl (s : St) (sz by' l len cap m : Nat) (news : List AV) (K : St → AV → Prop) (u : DU K) : sApp s sz by' (.osl sz l 0 len cap) m news K u = appB s sz by' l len m news (look s.σ l) K u := by
  simp only [sApp, appV, appB]
  split <;> simp_all
theorem appB_some (s : St) (sz by' l len m : Nat) (news cs : List AV) (K : St → AV → Prop) (u : DU K) : appB s sz by' l len m news (some (.cs cs)) K u = ((len * sz ≤ cs.length ∧ len + m ≤ maxLen ∧ (len + m) * by' ≤ 140737488355328) ∧ K (s.move l (.cs (cs.take (len * sz) ++ news))) (.osl sz s.n 0 (len + m) (len + m))) := _root_.id rfl
theorem move_mk (l : List (Nat × AV)) (σ : List (Nat × Bx)) (n i : Nat) (x : Bx) : St.move ⟨l, σ, n⟩ i x = ⟨l, (n, x) :: eras σ i, n + 1⟩ := _root_.id rfl
theorem eras_nil {α : Type} (i : Nat) : eras ([] : List (Nat × α)) i = [] := _root_.id rfl
theorem eras_hit {α : Type} (i : Nat) (x : α) (r : List (Nat × α)) : eras ((i, x) :: r) i = eras r i := by simp [eras]
theorem eras_miss {α : Type} {i j : Nat} (h : (i == j) = false) (x : α) (r : List (Nat × α)) : eras ((j, x) :: r) i = (j, x) :: eras r i := by
  have : ¬ i = j := by simpa using h
  simp [eras, this]
theorem iaddrV_sl (c : Bool) (K : AV → Prop) (u : DU K) (sz : Nat) (es : List (List AV)) (q : IntKind) (i : Int) : iaddrV c sz (.sl es) (.vl (.int q i)) K u = ((c = true → 0 ≤ i ∧ i < es.length ∧ (es.getD i.toNat []).length = sz) ∧ K (.dp (es.getD i.toNat []))) := _root_.id rfl
theorem iaddrV_osl (c : Bool) (K : AV → Prop) (u : DU K) (sz z l off len cap : Nat) (q : IntKind) (i : Int) : iaddrV c sz (.osl z l off len cap) (.vl (.int q i)) K u = ((c = true → z = sz ∧ 0 ≤ i ∧ i < len) ∧ K (.ptr l (off + i.toNat * sz))) := _root_.id rfl
theorem aaddrV_ptr (c : Bool) (K : AV → Prop) (u : DU K) (len sz l off : Nat) (q : IntKind) (i : Int) : aaddrV c len sz (.ptr l off) (.vl (.int q i)) K u = ((c = true → 0 ≤ i ∧ i < len) ∧ K (.ptr l (off + i.toNat * sz))) := _root_.id rfl
theorem aaddrV_dp (c : Bool) (K : AV → Prop) (u : DU K) (len sz : Nat) (cs : List AV) (q : IntKind) (i : Int) : aaddrV c len sz (.dp cs) (.vl (.int q i)) K u = ((c = true → 0 ≤ i ∧ i < len ∧ len * sz ≤ cs.length) ∧ K (.dp (cs.drop (i.toNat * sz)))) := _root_.id rfl
theorem idxV_agg (c : Bool) (K : AV → Prop) (u : DU K) (len sz : Nat) (a : Bool) (cs : List AV) (q : IntKind) (i : Int) : idxV c len sz a (.agg cs) (.vl (.int q i)) K u = ((c = true → 0 ≤ i ∧ i < len ∧ len * sz ≤ cs.length ∧ 0 < sz) ∧ K (if a then .agg ((cs.drop (i.toNat * sz)).take sz) else (cs.drop (i.toNat * sz)).headD .any)) := _root_.id rfl
theorem lenV_sl (K : AV → Prop) (u : DU K) (es : List (List AV)) : lenV (.sl es) K u = K (.vl (.int .i64 es.length)) := _root_.id rfl
theorem lenV_osl (K : AV → Prop) (u : DU K) (a b e f h : Nat) : lenV (.osl a b e f h) K u = K (.vl (.int .i64 f)) := _root_.id rfl
theorem lenV_nil (K : AV → Prop) (u : DU K) : lenV (.vl (.slice none 0 0)) K u = K (.vl (.int .i64 0)) := _root_.id rfl
theorem slenV_s (K : AV → Prop) (u : DU K) (s : ByteArray) : slenV (.vl (.string s)) K u = K (.vl (.int .i64 s.size)) := _root_.id rfl
theorem faddrV_dp (c : Bool) (K : AV → Prop) (u : DU K) (off : Nat) (cs : List AV) : faddrV c off (.dp cs) K u = ((c = true → off ≤ cs.length) ∧ K (.dp (cs.drop off))) := _root_.id rfl
theorem faddrV_ptr (c : Bool) (K : AV → Prop) (u : DU K) (off l o : Nat) : faddrV c off (.ptr l o) K u = K (.ptr l (o + off)) := _root_.id rfl
theorem extV_tup (c : Bool) (K : AV → Prop) (u : DU K) (i : Nat) (vs : List AV) : extV c i (.tup vs) K u = ((c = true → i < vs.length) ∧ K (vs.getD i .any)) := _root_.id rfl
theorem convV_i (K : AV → Prop) (u : DU K) (q p : IntKind) (n : Int) : convV q (.vl (.int p n)) K u = K (.vl (.int q (q.wrap n))) := _root_.id rfl
theorem unV_not (c : Bool) (K : AV → Prop) (u : DU K) (b : Bool) : unV c .not (.vl (.bool b)) K u = K (.vl (.bool (!b))) := _root_.id rfl
theorem unV_neg (c : Bool) (K : AV → Prop) (u : DU K) (n : Int) : unV c .neg (.vl (.int .i64 n)) K u = ((c = true → InR (-n)) ∧ K (.vl (.int .i64 (-n)))) := _root_.id rfl
theorem beqV_f (K : AV → Prop) (u : DU K) (a b : Bool) : beqV false (.vl (.bool a)) (.vl (.bool b)) K u = K (.vl (.bool (a == b))) := _root_.id rfl
theorem beqV_t (K : AV → Prop) (u : DU K) (a b : Bool) : beqV true (.vl (.bool a)) (.vl (.bool b)) K u = K (.vl (.bool (!(a == b)))) := _root_.id rfl
theorem beqsV_f (c : Bool) (K : AV → Prop) (u : DU K) (ks : List Nat) (x y : AV) : beqsV c false ks x y K u = ((c = true → x.isRow = true ∧ y.isRow = true) ∧ sEqC c ks x.cells y.cells (fun b => K (.vl (.bool b))) .mk) := _root_.id rfl
theorem beqsV_t (c : Bool) (K : AV → Prop) (u : DU K) (ks : List Nat) (x y : AV) : beqsV c true ks x y K u = ((c = true → x.isRow = true ∧ y.isRow = true) ∧ sEqC c ks x.cells y.cells (fun b => K (.vl (.bool (!b)))) .mk) := _root_.id rfl
theorem sEqC_nil (c : Bool) (K : Bool → Prop) (u : DU K) : sEqC c [] [] [] K u = K true := _root_.id rfl
theorem sEqC_cons (c : Bool) (K : Bool → Prop) (u : DU K) (k : Nat) (ks : List Nat) (x y : AV) (xs ys : List AV) : sEqC c (k :: ks) (x :: xs) (y :: ys) K u = sStrip c x (fun x => sStrip c y (fun y => sEqS k x y (fun a => sEqC c ks xs ys (fun b => K (a && b)) .mk) .mk) .mk) .mk := _root_.id rfl
theorem sEqS_i (K : Bool → Prop) (u : DU K) (q : IntKind) (a b : Int) : sEqS 0 (.vl (.int q a)) (.vl (.int q b)) K u = K (a == b) := by simp [sEqS, eqS]
theorem sEqS_b (K : Bool → Prop) (u : DU K) (a b : Bool) : sEqS 1 (.vl (.bool a)) (.vl (.bool b)) K u = K (a == b) := _root_.id rfl
theorem sEqS_s (K : Bool → Prop) (u : DU K) (a b : ByteArray) : sEqS 2 (.vl (.string a)) (.vl (.string b)) K u = K (a.toList == b.toList) := _root_.id rfl
theorem isRow_agg (cs : List AV) : AV.isRow (.agg cs) = true := _root_.id rfl
theorem isRow_vl (cs : Array Value) : AV.isRow (.vl (.agg cs)) = true := _root_.id rfl
theorem ite_tt {α : Sort _} (a b : α) : (if true = true then a else b) = a := by simp
theorem ite_ff {α : Sort _} (a b : α) : (if false = true then a else b) = b := by simp
theorem mmV_t (K : AV → Prop) (u : DU K) (q : IntKind) (a b : Int) : mmV true (.vl (.int q a)) (.vl (.int q b)) K u = K (.vl (.int q (max a b))) := by simp [mmV]
theorem mmV_f (K : AV → Prop) (u : DU K) (q : IntKind) (a b : Int) : mmV false (.vl (.int q a)) (.vl (.int q b)) K u = K (.vl (.int q (min a b))) := by simp [mmV]
theorem boxV_eq (n : Nat) (y : AV) (K : List AV → Prop) (u : DU K) : boxV true n y K u = ((y.cells.length = n ∧ y.cells.all AV.isCell = true) ∧ K y.cells) := by simp [boxV]
theorem sFill_nil (s : St) (c : Bool) (z : List AV) (K : List AV → Prop) (u : DU K) : sFill s c z [] K u = K z := _root_.id rfl
theorem sFill_cons (s : St) (c : Bool) (z : List AV) (off n : Nat) (x : Operand) (ps : List (Nat × Nat × Operand)) (K : List AV → Prop) (u : DU K) : sFill s c z ((off, n, x) :: ps) K u = sStrip c (s.ev x) (fun y => (c = true → y.cells.length = n ∧ off + n ≤ z.length ∧ y.cells.all AV.isCell = true) ∧ sFill s c (z.take off ++ y.cells ++ z.drop (off + n)) ps K u) .mk := _root_.id rfl
theorem sVc_skip (P : Program) (b0 : Nat) (s : St) (Q : Exit → St → Prop) (u : DU Q) : sVc P b0 .skip s Q u = Q .normal s := _root_.id rfl
theorem sVc_reg (P : Program) (b0 : Nat) (s : St) (Q : Exit → St → Prop) (u : DU Q) (ops : List GO) : sVc P b0 (.reg ops) s Q u = sOps P ops s (fun s => Q .normal s) .mk := _root_.id rfl
theorem sVc_draw (P : Program) (b0 : Nat) (s : St) (Q : Exit → St → Prop) (u : DU Q) (qs es : List GO) : sVc P b0 (.draw qs es) s Q u = sDops P s.n qs s (fun s => sOps P es s (fun s => Q .normal s) .mk) .mk := _root_.id rfl
theorem sVc_seq (P : Program) (b0 : Nat) (s : St) (Q : Exit → St → Prop) (u : DU Q) (a b : MC) : sVc P b0 (.seq a b) s Q u = sVc P b0 a s (fun e s' => thenV P b0 b Q e s') .mk := _root_.id rfl
theorem thenV_n (P : Program) (b0 : Nat) (b : MC) (Q : Exit → St → Prop) (s : St) : thenV P b0 b Q .normal s = sVc P b0 b s Q .mk := _root_.id rfl
theorem thenV_r (P : Program) (b0 : Nat) (b : MC) (Q : Exit → St → Prop) (s : St) : thenV P b0 b Q .ret s = Q .ret s := _root_.id rfl
theorem thenV_e (P : Program) (b0 : Nat) (b : MC) (Q : Exit → St → Prop) (s : St) (i : Nat) : thenV P b0 b Q (.exit i) s = Q (.exit i) s := _root_.id rfl
theorem sVc_cond (P : Program) (b0 : Nat) (s : St) (Q : Exit → St → Prop) (u : DU Q) (c : Operand) (a b : MC) : sVc P b0 (.cond c a b) s Q u = sCond (s.ev c) (sVc P b0 a s Q u) (sVc P b0 b s Q u) .mk := _root_.id rfl
theorem sVc_block (P : Program) (b0 : Nat) (s : St) (Q : Exit → St → Prop) (u : DU Q) (id : Nat) (c : MC) : sVc P b0 (.block id c) s Q u = sVc P b0 c s (fun e s' => blkV id Q e s') .mk := _root_.id rfl
theorem blkV_n (id : Nat) (Q : Exit → St → Prop) (s : St) : blkV id Q .normal s = Q .normal s := _root_.id rfl
theorem blkV_r (id : Nat) (Q : Exit → St → Prop) (s : St) : blkV id Q .ret s = Q .ret s := _root_.id rfl
theorem blkV_e (id i : Nat) (Q : Exit → St → Prop) (s : St) : blkV id Q (.exit i) s = if i = id then Q .normal s else Q (.exit i) s := _root_.id rfl
theorem sVc_exit (P : Program) (b0 : Nat) (s : St) (Q : Exit → St → Prop) (u : DU Q) (id : Nat) : sVc P b0 (.exit id) s Q u = Q (.exit id) s := _root_.id rfl
theorem sVc_ret (P : Program) (b0 : Nat) (s : St) (Q : Exit → St → Prop) (u : DU Q) : sVc P b0 .ret s Q u = Q .ret s := _root_.id rfl
theorem sCond_t (A B : Prop) (u : DP A B) : sCond (.vl (.bool true)) A B u = A := by simp [sCond, CondO]
theorem sCond_f (A B : Prop) (u : DP A B) : sCond (.vl (.bool false)) A B u = B := by simp [sCond, CondO]
theorem endV_n (rs : List RV) (post : AV → Prop) (s : St) : endV rs post .normal s = sRet s rs post .mk := _root_.id rfl
theorem endV_r (rs : List RV) (post : AV → Prop) (s : St) : endV rs post .ret s = sRet s rs post .mk := _root_.id rfl
theorem ev_t (s : St) (i : Nat) : s.ev (.tmp i) = s.get i := _root_.id rfl
theorem ev_c (s : St) (v : Value) : s.ev (.const v) = .vl v := _root_.id rfl
theorem ev_f (s : St) (f : Nat) : s.ev (.func f) = .fn (.func f) [] [] := _root_.id rfl
theorem get_hit (i : Nat) (x : AV) (r : List (Nat × AV)) (σ : List (Nat × Bx)) (n : Nat) : St.get ⟨(i, x) :: r, σ, n⟩ i = x := by simp [St.get, look]
theorem get_miss {i j : Nat} (h : (i == j) = false) (x : AV) (r : List (Nat × AV)) (σ : List (Nat × Bx)) (n : Nat) : St.get ⟨(j, x) :: r, σ, n⟩ i = St.get ⟨r, σ, n⟩ i := by
  have : ¬ i = j := by simpa using h
  simp [St.get, look, this]
theorem get_nil (i : Nat) (σ : List (Nat × Bx)) (n : Nat) : St.get ⟨[], σ, n⟩ i = .any := _root_.id rfl
theorem look_hit {α : Type} (i : Nat) (x : α) (r : List (Nat × α)) : look ((i, x) :: r) i = some x := by simp [look]
theorem look_miss {α : Type} {i j : Nat} (h : (i == j) = false) (x : α) (r : List (Nat × α)) : look ((j, x) :: r) i = look r i := by
  have : ¬ i = j := by simpa using h
  simp [look, this]
theorem upd_hit {α : Type} (i : Nat) (x y : α) (r : List (Nat × α)) : upd ((i, x) :: r) i y = (i, y) :: r := by simp [upd]
theorem upd_miss {α : Type} {i j : Nat} (h : (i == j) = false) (x y : α) (r : List (Nat × α)) : upd ((j, x) :: r) i y = (j, x) :: upd r i y := by
  have : ¬ i = j := by simpa using h
  simp [upd, this]
theorem put_some (l : List (Nat × AV)) (σ : List (Nat × Bx)) (n : Nat) (d : Nat) (x : AV) : St.put ⟨l, σ, n⟩ (some d) x = ⟨(d, x) :: l, σ, n⟩ := _root_.id rfl
theorem put_none (s : St) (x : AV) : St.put s none x = s := _root_.id rfl
theorem new_one (l : List (Nat × AV)) (σ : List (Nat × Bx)) (n : Nat) (x : Bx) : St.new ⟨l, σ, n⟩ [x] = ⟨l, (n, x) :: σ, n + 1⟩ := _root_.id rfl
theorem set_mk (l : List (Nat × AV)) (σ : List (Nat × Bx)) (n : Nat) (i : Nat) (x : Bx) : St.set ⟨l, σ, n⟩ i x = ⟨l, upd σ i x, n⟩ := _root_.id rfl
theorem n_mk (l : List (Nat × AV)) (σ : List (Nat × Bx)) (n : Nat) : St.n ⟨l, σ, n⟩ = n := _root_.id rfl
theorem σ_mk (l : List (Nat × AV)) (σ : List (Nat × Bx)) (n : Nat) : St.σ ⟨l, σ, n⟩ = σ := _root_.id rfl
theorem endSt_mk (l : List (Nat × AV)) (σ : List (Nat × Bx)) (n : Nat) (π : List Nat) (N' : Nat) (σc σ' : List (Nat × Bx)) : endSt ⟨l, σ, n⟩ π N' σc σ' = ⟨l, renσ (π ++ List.range' n (N' - π.length)) σ' ++ dropL (σc.map fun p => π.getD p.1 0) σ, n + (N' - π.length)⟩ := by
  simp only [endSt, nm, renσ_map]
theorem nm_mk (l : List (Nat × AV)) (σ : List (Nat × Bx)) (n : Nat) (π : List Nat) (N' : Nat) : nm ⟨l, σ, n⟩ π N' = π ++ List.range' n (N' - π.length) := _root_.id rfl
theorem renσ_nil (f : List Nat) : renσ f [] = [] := _root_.id rfl
theorem renσ_cons (f : List Nat) (l : Nat) (x : Bx) (r : List (Nat × Bx)) : renσ f ((l, x) :: r) = (f.getD l 0, renBx f x) :: renσ f r := _root_.id rfl
theorem dropL_nil' (ks : List Nat) : dropL ks [] = [] := _root_.id rfl
theorem dropL_none (σ : List (Nat × Bx)) : dropL [] σ = σ := dropL_nil σ
theorem renBx_cs (f : List Nat) (c : List AV) : renBx f (.cs c) = .cs (rens f c) := _root_.id rfl
theorem rens_nil' (f : List Nat) : rens f [] = [] := _root_.id rfl
theorem rens_cons' (f : List Nat) (x : AV) (xs : List AV) : rens f (x :: xs) = ren f x :: rens f xs := _root_.id rfl
theorem ren_imp' (f : List Nat) (q : List (Value × Value)) : ren f (.imp q) = (.imp q) := _root_.id rfl
theorem ren_vl' (f : List Nat) (x : Value) : ren f (.vl x) = (.vl x) := _root_.id rfl
theorem ren_any' (f : List Nat)  : ren f .any = .any := _root_.id rfl
theorem ren_ce' (f : List Nat)  : ren f .ce = .ce := _root_.id rfl
theorem ren_ptr' (f : List Nat) (a b : Nat) : ren f (.ptr a b) = (.ptr (f.getD a 0) b) := _root_.id rfl
theorem ren_mp' (f : List Nat) (a : Nat) : ren f (.mp a) = (.mp (f.getD a 0)) := _root_.id rfl
theorem ren_osl' (f : List Nat) (z a b e h : Nat) : ren f (.osl z a b e h) = (.osl z (f.getD a 0) b e h) := _root_.id rfl
theorem ren_fn' (f : List Nat) (q : Fn) (x y : List AV) : ren f (.fn q x y) = (.fn q (rens f x) (rens f y)) := _root_.id rfl
theorem ren_agg' (f : List Nat) (x : List AV) : ren f (.agg x) = (.agg (rens f x)) := _root_.id rfl
theorem ren_tup' (f : List Nat) (x : List AV) : ren f (.tup x) = (.tup (rens f x)) := _root_.id rfl
theorem ren_dp' (f : List Nat) (x : List AV) : ren f (.dp x) = (.dp (rens f x)) := _root_.id rfl
theorem ren_gd' (f : List Nat) (q : Bool) (x : AV) : ren f (.gd q x) = (.gd q (ren f x)) := _root_.id rfl
theorem args0_nil (i : Nat) : args0 i [] = [] := _root_.id rfl
theorem args0_cons (i : Nat) (x : AV) (xs : List AV) : args0 i (x :: xs) = (i, x) :: args0 (i + 1) xs := _root_.id rfl
theorem cells_agg (cs : List AV) : AV.cells (.agg cs) = cs := _root_.id rfl
theorem cells_imp (x : List (Value × Value)) : AV.cells (.imp x) = [(.imp x)] := _root_.id rfl
theorem isCell_imp (x : List (Value × Value)) : AV.isCell (.imp x) = true := _root_.id rfl
theorem cells_sl (x : List (List AV)) : AV.cells (.sl x) = [(.sl x)] := _root_.id rfl
theorem isCell_sl (x : List (List AV)) : AV.isCell (.sl x) = true := _root_.id rfl
theorem cells_dp (x : List AV) : AV.cells (.dp x) = [(.dp x)] := _root_.id rfl
theorem isCell_dp (x : List AV) : AV.isCell (.dp x) = true := _root_.id rfl
theorem cells_tup (x : List AV) : AV.cells (.tup x) = [(.tup x)] := _root_.id rfl
theorem cells_ptr (a b : Nat) : AV.cells (.ptr a b) = [(.ptr a b)] := _root_.id rfl
theorem isCell_ptr (a b : Nat) : AV.isCell (.ptr a b) = true := _root_.id rfl
theorem cells_fn (f : Fn) (a b : List AV) : AV.cells (.fn f a b) = [(.fn f a b)] := _root_.id rfl
theorem isCell_fn (f : Fn) (a b : List AV) : AV.isCell (.fn f a b) = true := _root_.id rfl
theorem cells_osl (a b e f h : Nat) : AV.cells (.osl a b e f h) = [(.osl a b e f h)] := _root_.id rfl
theorem isCell_osl (a b e f h : Nat) : AV.isCell (.osl a b e f h) = true := _root_.id rfl
theorem cells_mp (a : Nat) : AV.cells (.mp a) = [(.mp a)] := _root_.id rfl
theorem isCell_mp (a : Nat) : AV.isCell (.mp a) = true := _root_.id rfl
theorem cells_ce  : AV.cells .ce = [.ce] := _root_.id rfl
theorem isCell_ce  : AV.isCell .ce = true := _root_.id rfl
theorem cells_int (q : IntKind) (x : Int) : AV.cells (.vl (.int q x)) = [(.vl (.int q x))] := _root_.id rfl
theorem isCell_int (q : IntKind) (x : Int) : AV.isCell (.vl (.int q x)) = true := _root_.id rfl
theorem cells_bool (x : Bool) : AV.cells (.vl (.bool x)) = [(.vl (.bool x))] := _root_.id rfl
theorem isCell_bool (x : Bool) : AV.isCell (.vl (.bool x)) = true := _root_.id rfl
theorem cells_string (x : ByteArray) : AV.cells (.vl (.string x)) = [(.vl (.string x))] := _root_.id rfl
theorem isCell_string (x : ByteArray) : AV.isCell (.vl (.string x)) = true := _root_.id rfl
theorem cells_nilsl (a : Option Addr) (x y : Nat) : AV.cells (.vl (.slice a x y)) = [(.vl (.slice a x y))] := _root_.id rfl
theorem isCell_nilsl (a : Option Addr) (x y : Nat) : AV.isCell (.vl (.slice a x y)) = true := _root_.id rfl
theorem cells_map (a : Option Nat) : AV.cells (.vl (.map a)) = [(.vl (.map a))] := _root_.id rfl
theorem isCell_map (a : Option Nat) : AV.isCell (.vl (.map a)) = true := _root_.id rfl
theorem cells_nilf  : AV.cells (.vl .nilFunc) = [(.vl .nilFunc)] := _root_.id rfl
theorem isCell_nilf  : AV.isCell (.vl .nilFunc) = true := _root_.id rfl
theorem cells_nili  : AV.cells (.vl .nilIface) = [(.vl .nilIface)] := _root_.id rfl
theorem isCell_nili  : AV.isCell (.vl .nilIface) = true := _root_.id rfl
theorem cells_nilp (a : Option Addr) : AV.cells (.vl (.pointer a)) = [(.vl (.pointer a))] := _root_.id rfl
theorem isCell_nilp (a : Option Addr) : AV.isCell (.vl (.pointer a)) = true := _root_.id rfl

def sRetB (N0 N' : Nat) (σ0 : List (Nat × Bx)) (s : St) (rs : List RV) (post : AV → List (Nat × Bx) → Prop) (_ : DU post) : Prop := RetB N0 N' σ0 s rs post
def endB (N0 N' : Nat) (σ0 : List (Nat × Bx)) (rs : List RV) (post : AV → List (Nat × Bx) → Prop) (e : Exit) (s' : St) : Prop :=
  match e with
  | .normal => RetB N0 N' σ0 s' rs post
  | .ret => RetB N0 N' σ0 s' rs post
  | _ => False
def endY (N b : Nat) (rs : List RV) (e : Exit) (s' : St) : Prop :=
  match e with
  | .normal => RetY N b s' rs
  | .ret => RetY N b s' rs
  | _ => False
def keepB (N0 N' : Nat) (σ0 : List (Nat × Bx)) (s : St) (x : AV) (post : AV → List (Nat × Bx) → Prop) (_ : DU post) : Prop :=
  ∃ keep : List Nat, s.n ≤ N' ∧ (∀ l ∈ keep, l < N0 → (look σ0 l).isSome = true) ∧ post (frz (dropL keep s.σ) 6 x) (keepL keep s.σ)

theorem endB_n (N0 N' : Nat) (σ0 : List (Nat × Bx)) (rs : List RV) (post : AV → List (Nat × Bx) → Prop) (s : St) : endB N0 N' σ0 rs post .normal s = sRetB N0 N' σ0 s rs post .mk := _root_.id rfl
theorem endB_r (N0 N' : Nat) (σ0 : List (Nat × Bx)) (rs : List RV) (post : AV → List (Nat × Bx) → Prop) (s : St) : endB N0 N' σ0 rs post .ret s = sRetB N0 N' σ0 s rs post .mk := _root_.id rfl

def sRes (s : St) (rs : List RV) (K : List AV → Prop) (_ : DU K) : Prop := resV s rs K
def resB (agg : Bool) (n off : Nat) (b : Option Bx) (K : AV → Prop) (_ : DU K) : Prop :=
  match b with
  | some (.cs cs) => off + n ≤ cs.length ∧ K (if agg then .agg ((cs.drop off).take n) else (cs.drop off).headD .any)
  | _ => False
def resC (agg : Bool) (n : Nat) (σ : List (Nat × Bx)) (x : AV) (K : AV → Prop) (_ : DU K) : Prop :=
  match x with
  | .ptr l off => resB agg n off (look σ l) K .mk
  | _ => False

theorem sRet_eq (s : St) (rs : List RV) (post : AV → Prop) (u : DU post) : sRet s rs post u = sRes s rs (fun xs => lb 0 (frz s.σ 6 (tupV xs)) ∧ post (frz s.σ 6 (tupV xs))) .mk := _root_.id rfl
theorem sRetB_eq (N0 N' : Nat) (σ0 : List (Nat × Bx)) (s : St) (rs : List RV) (post : AV → List (Nat × Bx) → Prop) (u : DU post) : sRetB N0 N' σ0 s rs post u = sRes s rs (fun xs => keepB N0 N' σ0 s (tupV xs) post .mk) .mk := _root_.id rfl
theorem endY_n (N b : Nat) (rs : List RV) (s : St) : endY N b rs .normal s = (sRes s rs (fun _ => True) .mk ∧ ∃ y, look s.σ N = some (.yc b y) ∧ (y = some [] ∨ y = none)) := _root_.id rfl
theorem endY_r (N b : Nat) (rs : List RV) (s : St) : endY N b rs .ret s = (sRes s rs (fun _ => True) .mk ∧ ∃ y, look s.σ N = some (.yc b y) ∧ (y = some [] ∨ y = none)) := _root_.id rfl
theorem sRes_nil (s : St) (K : List AV → Prop) (u : DU K) : sRes s [] K u = K [] := _root_.id rfl
theorem sRes_t (s : St) (i : Nat) (rs : List RV) (K : List AV → Prop) (u : DU K) : sRes s (.t i :: rs) K u = sStrip true (s.get i) (fun x => sRes s rs (fun xs => K (x :: xs)) .mk) .mk := _root_.id rfl
theorem sRes_c (s : St) (i : Nat) (a : Bool) (n : Nat) (rs : List RV) (K : List AV → Prop) (u : DU K) : sRes s (.c i a n :: rs) K u = resC a n s.σ (s.get i) (fun x => sRes s rs (fun xs => K (x :: xs)) .mk) .mk := by
  simp only [sRes, resV, resC]
  cases s.get i <;> simp only []
  rename_i l off
  unfold resB
  cases look s.σ l <;> simp only []
  rename_i b
  cases b <;> rfl
theorem resC_ptr (a : Bool) (n l off : Nat) (σ : List (Nat × Bx)) (K : AV → Prop) (u : DU K) : resC a n σ (.ptr l off) K u = resB a n off (look σ l) K u := _root_.id rfl
theorem resB_some (a : Bool) (n off : Nat) (cs : List AV) (K : AV → Prop) (u : DU K) : resB a n off (some (.cs cs)) K u = (off + n ≤ cs.length ∧ K (if a then .agg ((cs.drop off).take n) else (cs.drop off).headD .any)) := _root_.id rfl
theorem tupV_1 (x : AV) : tupV [x] = x := _root_.id rfl
theorem tupV_0 : tupV [] = .tup [] := _root_.id rfl
theorem tupV_2 (x y : AV) (r : List AV) : tupV (x :: y :: r) = .tup (x :: y :: r) := _root_.id rfl
theorem frz_imp (σ : List (Nat × Bx)) (d : Nat) (x : List (Value × Value)) : frz σ d (.imp x) = (.imp x) := by cases d <;> rfl
theorem frz_vl (σ : List (Nat × Bx)) (d : Nat) (x : Value) : frz σ d (.vl x) = (.vl x) := by cases d <;> rfl
theorem frz_sl (σ : List (Nat × Bx)) (d : Nat) (x : List (List AV)) : frz σ d (.sl x) = (.sl x) := by cases d <;> rfl
theorem frz_dp (σ : List (Nat × Bx)) (d : Nat) (x : List AV) : frz σ d (.dp x) = (.dp x) := by cases d <;> rfl
theorem frz_ptr (σ : List (Nat × Bx)) (d : Nat) (a b : Nat) : frz σ d (.ptr a b) = (.ptr a b) := by cases d <;> rfl
theorem frz_mp (σ : List (Nat × Bx)) (d : Nat) (a : Nat) : frz σ d (.mp a) = (.mp a) := by cases d <;> rfl
theorem frz_ce (σ : List (Nat × Bx)) (d : Nat)  : frz σ d .ce = .ce := by cases d <;> rfl
theorem frz_any (σ : List (Nat × Bx)) (d : Nat)  : frz σ d .any = .any := by cases d <;> rfl
theorem frz_fn (σ : List (Nat × Bx)) (d : Nat) (f : Fn) (a b : List AV) : frz σ d (.fn f a b) = (.fn f a b) := by cases d <;> rfl
theorem frz_agg (σ : List (Nat × Bx)) (d : Nat) (cs : List AV) : frz σ (d + 1) (.agg cs) = .agg (cs.map (frz σ d)) := _root_.id rfl
theorem frz_tup (σ : List (Nat × Bx)) (d : Nat) (cs : List AV) : frz σ (d + 1) (.tup cs) = .tup (cs.map (frz σ d)) := _root_.id rfl
theorem frz_gd (σ : List (Nat × Bx)) (d : Nat) (g : Bool) (x : AV) : frz σ (d + 1) (.gd g x) = .gd g (frz σ d x) := _root_.id rfl

def frzB (σ : List (Nat × Bx)) (d sz l off len cap : Nat) (b : Option Bx) : AV :=
  match b with
  | some (.cs cs) => if off + len * sz ≤ cs.length then .sl ((chunks sz len (cs.drop off)).map fun e => e.map (frz σ d)) else .osl sz l off len cap
  | _ => .osl sz l off len cap

theorem frz_osl (σ : List (Nat × Bx)) (d : Nat) (sz l off len cap : Nat) : frz σ (d + 1) (.osl sz l off len cap) = frzB σ d sz l off len cap (look σ l) := _root_.id rfl
theorem frzB_some (σ : List (Nat × Bx)) (d : Nat) (sz l off len cap : Nat) (cs : List AV) (h : off + len * sz ≤ cs.length) : frzB σ d sz l off len cap (some (.cs cs)) = .sl ((chunks sz len (cs.drop off)).map fun e => e.map (frz σ d)) := by simp [frzB, h]
theorem lb_vl (n : Nat) (x : Value) : lb n (.vl x) = True := _root_.id rfl
theorem lb_imp (n : Nat) (x : List (Value × Value)) : lb n (.imp x) = True := _root_.id rfl
theorem lb_ce (n : Nat) : lb n .ce = True := _root_.id rfl
theorem lb_any (n : Nat) : lb n .any = True := _root_.id rfl
theorem lb_agg (n : Nat) (x : List AV) : lb n (.agg x) = lbs n x := _root_.id rfl
theorem lb_tup (n : Nat) (x : List AV) : lb n (.tup x) = lbs n x := _root_.id rfl
theorem lb_dp (n : Nat) (x : List AV) : lb n (.dp x) = lbs n x := _root_.id rfl
theorem lb_sl (n : Nat) (x : List (List AV)) : lb n (.sl x) = lbEs n x := _root_.id rfl
theorem lb_fn (n : Nat) (f : Fn) (x y : List AV) : lb n (.fn f x y) = (lbs n x ∧ lbs n y) := _root_.id rfl
theorem lb_gd (n : Nat) (g : Bool) (x : AV) : lb n (.gd g x) = lb n x := _root_.id rfl
theorem lbs_nil (n : Nat) : lbs n [] = True := _root_.id rfl
theorem lbs_cons (n : Nat) (x : AV) (xs : List AV) : lbs n (x :: xs) = (lb n x ∧ lbs n xs) := _root_.id rfl

/-- No yields among the boxes. -/
def noY : List (Nat × Bx) → Bool
  | [] => true
  | (_, .yc _ _) :: _ => false
  | _ :: r => noY r
theorem noY_ok : ∀ {σ : List (Nat × Bx)}, noY σ = true → ∀ l b y, look σ l ≠ some (.yc b y)
  | [], _, l, b, y => by simp [look]
  | (j, x) :: r, h, l, b, y => by
    cases x with
    | yc => simp [noY] at h
    | cs c =>
      simp only [look]
      split
      · simp
      · exact noY_ok (by simpa [noY] using h) l b y
    | mp c =>
      simp only [look]
      split
      · simp
      · exact noY_ok (by simpa [noY] using h) l b y
theorem fc_start {P : Program} {f : FuncId} {m : MC} {rs : List RV} {N : Nat} {args : List AV} {N0 N' : Nat} {σ0 : List (Nat × Bx)} {post : AV → List (Nat × Bx) → Prop} (h : Reads P f m rs N) (hn : args.length ≤ N) (hny : noY σ0 = true)
    (hv : sVc P N0 m ⟨args0 0 args, σ0, N0⟩ (fun e s => endB N0 N' σ0 rs post e s) .mk) : FC P f N0 args σ0 N' post := fc_of h hn (noY_ok hny) hv
theorem ic_start {P : Program} {f : FuncId} {m : MC} {rs : List RV} {N : Nat} {caps : List AV} {N0 : Nat} {σ : List (Nat × Bx)} {xs : List (List AV)} (h : Reads P f m rs N) (hfl : m.flat = true) (hn : caps.length + 1 ≤ N) (hny : noY σ = true)
    (hv : ∀ b, sVc P (N0 + 1) m ⟨args0 0 (.vl (.func (.yield b) #[] #[]) :: caps), (N0, .yc b (some xs)) :: σ, N0 + 1⟩ (fun e s => endY N0 b rs e s) .mk) : IC P f N0 caps σ xs := ic_of h hfl hn (noY_ok hny) hv
theorem keep_use {N0 N' : Nat} {σ0 : List (Nat × Bx)} {s : St} {x : AV} {post : AV → List (Nat × Bx) → Prop} {u : DU post} (keep : List Nat) (h1 : s.n ≤ N') (h2 : ∀ l ∈ keep, l < N0 → (look σ0 l).isSome = true) (h3 : post (frz (dropL keep s.σ) 6 x) (keepL keep s.σ)) : keepB N0 N' σ0 s x post u := ⟨keep, h1, h2, h3⟩
theorem fp_start {P : Program} {f : FuncId} {m : MC} {rs : List RV} {N : Nat} {args : List AV} {post : AV → Prop} (h : Reads P f m rs N) (hn : args.length ≤ N)
    (hv : sVc P 0 m ⟨args0 0 args, [], 0⟩ (fun e s => endV rs post e s) .mk) : FP P f args post := fp_of h hn hv


/-- The boxes that are handed over, one by one. -/
def bxs (π : List Nat) (σ : List (Nat × Bx)) : List (Nat × Bx) → Prop
  | [] => True
  | (l, x) :: r => (l < π.length ∧ lbBx π.length x ∧ look σ (π.getD l 0) = some (renBx π x)) ∧ bxs π σ r
theorem bxs_ok {π : List Nat} {σ : List (Nat × Bx)} : ∀ {σc : List (Nat × Bx)}, bxs π σ σc → ∀ l x, look σc l = some x → l < π.length ∧ lbBx π.length x ∧ look σ (π.getD l 0) = some (renBx π x)
  | [], _, l, x, h => by simp [look] at h
  | (j, y) :: r, h, l, x, hl => by
    simp only [bxs] at h
    simp only [look] at hl
    split at hl
    · rename_i e
      cases hl
      subst e
      exact h.1
    · exact bxs_ok h.2 l x hl
/-- All labels in the boxes are below a number. -/
def bxl (n : Nat) : List (Nat × Bx) → Prop
  | [] => True
  | (_, x) :: r => lbBx n x ∧ bxl n r
theorem bxl_ok {n : Nat} : ∀ {σ : List (Nat × Bx)}, bxl n σ → ∀ l x, look σ l = some x → lbBx n x
  | [], _, l, x, h => by simp [look] at h
  | (j, y) :: r, h, l, x, hl => by
    simp only [bxl] at h
    simp only [look] at hl
    split at hl
    · cases hl
      exact h.1
    · exact bxl_ok h.2 l x hl
theorem FC_mono {P : Program} {f : FuncId} {N : Nat} {args : List AV} {σ : List (Nat × Bx)} {N' : Nat} {post post' : AV → List (Nat × Bx) → Prop} (h : FC P f N args σ N' post) (hp : ∀ r σ', post r σ' → post' r σ') : FC P f N args σ N' post' := by
  intro w M ρ vs h1 h2 h3 h4
  refine (h w M ρ vs h1 h2 h3 h4).mono ?_
  rintro e w' ⟨v, ρ', r, σ', a1, a2, a3⟩
  exact ⟨v, ρ', r, σ', a1, hp _ _ a2, a3⟩
theorem FP_mono {P : Program} {f : FuncId} {args : List AV} {post post' : AV → Prop} (h : FP P f args post) (hp : ∀ r, post r → post' r) : FP P f args post' := FC_mono h fun _ _ h => ⟨hp _ h.1, h.2⟩
theorem call_use {P : Program} {f : FuncId} {as : List AV} {s : St} {dst : Option Nat} {K : St → Prop} (u : DU K) (post : AV → Prop) (h1 : lbs 0 as) (h2 : FP P f as post) (h3 : ∀ r, post r → K (s.put dst r)) : sCall P f as s dst K u := .inl ⟨h1, post, h2, h3⟩
theorem call_eq {P : Program} {f : FuncId} {as : List AV} {s : St} {dst : Option Nat} {K : St → Prop} {u : DU K} {r : AV} (h1 : lbs 0 as) (h2 : FP P f as (fun x => x = r)) (h3 : K (s.put dst r)) : sCall P f as s dst K u := .inl ⟨h1, _, h2, fun _ e => e ▸ h3⟩
/-- A call that is handed boxes. -/
theorem callB_use {P : Program} {f : FuncId} {as : List AV} {s : St} {dst : Option Nat} {K : St → Prop} {u : DU K} (π : List Nat) (as' : List AV) (σc : List (Nat × Bx)) (N' : Nat) (post : AV → List (Nat × Bx) → Prop)
    (h1 : as = rens π as') (h2 : lbs π.length as') (h3 : π.Nodup) (h4 : ∀ l ∈ π, l < s.n) (h5 : π.length ≤ N') (h6 : bxs π s.σ σc)
    (h7 : FC P f π.length as' σc N' post) (h8 : ∀ r σ', post r σ' → lb N' r ∧ bxl N' σ' ∧ K ((endSt s π N' σc σ').put dst (ren (nm s π N') r))) : sCall P f as s dst K u :=
  .inr (.inl ⟨π, as', σc, N', post, h1, h2, h3, h4, h5, bxs_ok h6, h7, fun r σ' h => ⟨(h8 r σ' h).1, bxl_ok (h8 r σ' h).2.1, (h8 r σ' h).2.2⟩⟩)
/-- A look-up. -/
theorem lkp_use {c : Bool} {ks : List Nat} {ok : Bool} {z : Value} {es : List (Value × AV)} {key : AV} {K : AV → Prop} {u : DU K} (kv : Value) (r : Option (Nat × AV)) (h1 : key.toVal = some kv)
    (h2 : Value.isAggV kv = true ∧ (eqVs ks kv.cells.toList kv.cells.toList).isSome = true ∧ ∀ e ∈ es, Value.isAggV e.1 = true) (h3 : findV ks kv.cells.toList es 0 = some r) (h4 : K (lkpR ok z r)) : sLkp c ks ok z es key K u := by
  unfold sLkp lkpE
  rw [h1]
  exact ⟨fun _ => h2, r, h3, h4⟩
theorem mset_use {ks : List Nat} {es : List (Value × AV)} {key x : AV} {K : List (Value × AV) → Prop} {u : DU K} (kv : Value) (h1 : key.toVal = some kv)
    (h2 : Value.isAggV kv = true ∧ (eqVs ks kv.cells.toList kv.cells.toList).isSome = true ∧ ∀ e ∈ es, Value.isAggV e.1 = true) (h3 : findV ks kv.cells.toList es 0 = some none) (h4 : K (es ++ [(kv, x)])) : sMset ks es key x K u := by
  unfold sMset msetE
  rw [h1]
  exact ⟨h2, h3, h4⟩
theorem yield_use {b : Nat} {as : List AV} {s : St} {dst : Option Nat} {K : St → Prop} {u : DU K} (l : Nat) (rest : List (List AV)) (h1 : look s.σ l = some (.yc b (some (as :: rest)))) (h2 : lbs 0 as)
    (h3 : K ((s.set l (.yc b (some rest))).put dst (.vl (.bool true)))) (h4 : K ((s.set l (.yc b none)).put dst (.vl (.bool false)))) : sYield b as s dst K u := ⟨l, rest, h1, h2, h3, h4⟩
theorem callT_eq {P : Program} {n0 : Nat} {f : FuncId} {as : List AV} {s : St} {dst : Option Nat} {K : St → Prop} {u : DU K} {r : AV} (h1 : lbs 0 as) (h2 : FP P f as (fun x => x = r)) (h3 : K (s.put dst r)) : sCallT P n0 f as s dst K u := .inl ⟨h1, r, h2, h3⟩
/-- A call that reads some boxes, in any order. -/
theorem callR_use {P : Program} {n0 : Nat} {f : FuncId} {as : List AV} {s : St} {dst : Option Nat} {K : St → Prop} {u : DU K} (π : List Nat) (as' : List AV) (σc : List (Nat × Bx)) (r : AV)
    (h1 : as = rens π as') (h2 : lbs π.length as') (h3 : π.Nodup) (h4 : ∀ l ∈ π, l < n0) (h5 : bxs π s.σ σc) (h6 : lb 0 r)
    (h7 : FC P f π.length as' σc π.length (fun x σ' => x = r ∧ σ' = σc)) (h8 : K (s.put dst r)) : sCallT P n0 f as s dst K u :=
  .inr ⟨π, as', σc, r, h1, h2, h3, h4, bxs_ok h5, h6, FC_mono h7 fun x σ' h => ⟨h.1, fun l y hy => by rw [h.2]; exact hy⟩, h8⟩
theorem callG_eq {P : Program} {f : FuncId} {c : Bool} {as : List AV} {s : St} {dst : Option Nat} {K : St → Prop} {u : DU K} {r : AV} (h1 : lbs 0 as) (h2 : c = true → FP P f as (fun x => x = r)) (h3 : K (s.put dst (mkgd c r))) : sCallG P f c as s dst K u := ⟨h1, r, h2, h3⟩
theorem callV_eq {P : Program} {f : FuncId} {c : Bool} {as : List AV} {s : St} {dst : Option Nat} {K : St → Prop} {u : DU K} {r : AV} (h1 : lbs 0 as) (h2 : c = true → FP P f as (fun x => x = r)) (h3 : K (s.put dst (mkgd c r))) : sCallV P f c as s dst K u := .inl ⟨h1, r, h2, h3⟩
theorem callV_use {P : Program} {f : FuncId} {c : Bool} {as : List AV} {s : St} {dst : Option Nat} {K : St → Prop} {u : DU K} (hc : c = true) (h : sCall P f as s dst K .mk) : sCallV P f c as s dst K u := .inr ⟨hc, h⟩
/-- A call that is handed own rows for good. -/
theorem callF_eq {P : Program} {f : FuncId} {as : List AV} {s : St} {dst : Option Nat} {K : St → Prop} {u : DU K} {r : AV} (ls : List Nat) (as' : List AV) (h1 : as.map (frz (keepL ls s.σ) 2) = as') (h2 : lbs 0 as') (h3 : FP P f as' (fun x => x = r)) (h4 : K (St.put ⟨s.t, dropL ls s.σ, s.n⟩ dst r)) : sCall P f as s dst K u :=
  .inr (.inr ⟨ls, by rw [h1]; exact h2, (fun x => x = r), by rw [h1]; exact h3, fun _ e => e ▸ h4⟩)
theorem cond_split {p : Bool} {A B : Prop} {u : DP A B} (h1 : p = true → A) (h2 : p = false → B) : sCond (.vl (.bool p)) A B u := ⟨h1, h2⟩
/-- Less is known of the second state: entry by entry. -/
def leT (s : St) (n : Nat) : List (Nat × AV) → Prop
  | [] => True
  | (i, x) :: r => s.get i = x ∧ lb n x ∧ leT s n r
def leB (s : St) (n : Nat) : List (Nat × Bx) → Prop
  | [] => True
  | (l, x) :: r => look s.σ l = some x ∧ l < n ∧ lbBx n x ∧ leB s n r
theorem leT_ok {s : St} {n : Nat} : ∀ {t : List (Nat × AV)}, leT s n t → ∀ i x, (i, x) ∈ t → s.get i = x ∧ lb n x
  | [], _, i, x, h => by simp at h
  | (j, y) :: r, h, i, x, hm => by
    simp only [leT] at h
    rcases List.mem_cons.1 hm with hm | hm
    · cases hm
      exact ⟨h.1, h.2.1⟩
    · exact leT_ok h.2.2 i x hm
theorem leB_ok {s : St} {n : Nat} : ∀ {σ : List (Nat × Bx)}, leB s n σ → ∀ l x, look σ l = some x → look s.σ l = some x ∧ l < n ∧ lbBx n x
  | [], _, l, x, h => by simp [look] at h
  | (j, y) :: r, h, l, x, hm => by
    simp only [leB] at h
    simp only [look] at hm
    split at hm
    · rename_i e
      subst e
      cases hm
      exact ⟨h.1, h.2.1, h.2.2.1⟩
    · exact leB_ok h.2.2.2 l x hm
theorem le_use {s s' : St} (h : leT s s'.n s'.t ∧ leB s s'.n s'.σ ∧ s'.n ≤ s.n) : s.le s' :=
  ⟨fun i x hm _ => (leT_ok h.1 i x hm).1, fun l x hx => (leB_ok h.2.1 l x hx).1, h.2.2, fun i x hm => (leT_ok h.1 i x hm).2, fun l x hx => (leB_ok h.2.1 l x hx).2⟩
def loopQ (b0 : Nat) (I : Nat → St → Prop) (m : Nat) (Q : Exit → St → Prop) (e : Exit) (s' : St) : Prop :=
  match e with
  | .normal => ∃ m' s'', m' < m ∧ I m' s'' ∧ b0 ≤ s''.n ∧ s'.le s''
  | e => Q e s'
/-- A loop: its invariant, with a number that falls. -/
theorem loop_use {P : Program} {b0 : Nat} {c : MC} {s : St} {Q : Exit → St → Prop} {u : DU Q} (I : Nat → St → Prop) (m : Nat) (s0 : St) (h0 : I m s0) (hb : b0 ≤ s0.n) (hle : s.le s0) (h : ∀ m s, I m s → sVc P b0 c s (fun e s' => loopQ b0 I m Q e s') .mk) : sVc P b0 (.loop c) s Q u := by
  refine ⟨I, ⟨m, s0, h0, hb, hle⟩, fun m s hI => ?_⟩
  have := h m s hI
  unfold sVc at this
  refine cast ?_ this
  congr 1


def rngA (P : Program) (n : Nat) (b : MC) (Q : Exit → St → Prop) (e : Exit) (s' : St) : Prop :=
  match e with
  | .normal => vc P n b s' Q
  | _ => False
def rngQ (b0 : Nat) (T : List (Nat × AV)) (I : List (List AV) → List (Nat × Bx) → Nat → Prop) (rest : List (List AV)) (Q : Exit → St → Prop) (e : Exit) (s' : St) : Prop :=
  match e with
  | .normal => ∃ σ1 n1, I rest σ1 n1 ∧ b0 ≤ n1 ∧ St.le { s' with t := T } ⟨T, σ1, n1⟩
  | .ret => Q .ret ⟨T, s'.σ, s'.n⟩
  | .exit i => Q (.exit i) ⟨T, s'.σ, s'.n⟩
  | _ => False
/-- A range over an iterator: what it yields, and an invariant of what is still to come. -/
theorem rng_use {P : Program} {b0 : Nat} {g : Operand} {ps : List Nat} {a b : MC} {s : St} {Q : Exit → St → Prop} {u : DU Q} (gf : FuncId) (caps : List AV) (hg : s.ev g = .fn (.func gf) [] caps) (hent : Ent P gf)
    (π : List Nat) (caps' : List AV) (σc : List (Nat × Bx)) (xs : List (List AV)) (T : List (Nat × AV)) (I : List (List AV) → List (Nat × Bx) → Nat → Prop) (σ0 : List (Nat × Bx)) (n0 : Nat)
    (h1 : caps = rens π caps') (h2 : lbs π.length caps') (h3 : π.Nodup) (h4 : ∀ l ∈ π, l < s.n) (h5 : bxs π s.σ σc)
    (h6 : IC P gf π.length caps' σc xs) (h7 : ∀ x ∈ xs, x.length = ps.length ∧ lbs 0 x) (h8 : I xs σ0 n0) (h9 : b0 ≤ n0) (h10 : St.le { s with σ := dropL (σc.map fun p => π.getD p.1 0) s.σ } ⟨T, σ0, n0⟩)
    (hround : ∀ x rest σ n, I (x :: rest) σ n → x.length = ps.length → lbs 0 x → sVc P n a ⟨bindT ps x T, σ, n⟩ (fun e s' => rngA P n b (fun e s' => rngQ b0 T I rest Q e s') e s') .mk)
    (hdone : ∀ σ n, I [] σ n → Q .normal ⟨T, σ, n⟩) : sVc P b0 (.rng g ps a b) s Q u := by
  unfold sVc
  simp only [vc, RangeO, hg]
  refine ⟨hent, π, caps', σc, xs, T, I, h1, h2, h3, h4, bxs_ok h5, h6, h7, ⟨σ0, n0, h8, h9, h10⟩, fun x rest σ n hI hl hb => ?_, hdone⟩
  have := hround x rest σ n hI hl hb
  unfold sVc at this
  refine cast ?_ this
  congr 1

theorem rngA_n (P : Program) (n : Nat) (b : MC) (Q : Exit → St → Prop) (s : St) : rngA P n b Q .normal s = sVc P n b s Q .mk := _root_.id rfl
theorem rngQ_r (b0 : Nat) (T : List (Nat × AV)) (I : List (List AV) → List (Nat × Bx) → Nat → Prop) (rest : List (List AV)) (Q : Exit → St → Prop) (s : St) : rngQ b0 T I rest Q .ret s = Q .ret ⟨T, s.σ, s.n⟩ := _root_.id rfl
theorem rngQ_e (b0 : Nat) (T : List (Nat × AV)) (I : List (List AV) → List (Nat × Bx) → Nat → Prop) (rest : List (List AV)) (Q : Exit → St → Prop) (s : St) (i : Nat) : rngQ b0 T I rest Q (.exit i) s = Q (.exit i) ⟨T, s.σ, s.n⟩ := _root_.id rfl
theorem bindT_nil (x : List AV) (T : List (Nat × AV)) : bindT [] x T = T := _root_.id rfl
theorem bindT_cons (p : Nat) (ps : List Nat) (x : AV) (xs : List AV) (T : List (Nat × AV)) : bindT (p :: ps) (x :: xs) T = bindT ps xs ((p, x) :: T) := _root_.id rfl
theorem leT_nil (s : St) (n : Nat) : leT s n [] = True := _root_.id rfl
theorem leT_cons (s : St) (n i : Nat) (x : AV) (r : List (Nat × AV)) : leT s n ((i, x) :: r) = (s.get i = x ∧ lb n x ∧ leT s n r) := _root_.id rfl
theorem leB_nil (s : St) (n : Nat) : leB s n [] = True := _root_.id rfl
theorem leB_cons (s : St) (n i : Nat) (x : Bx) (r : List (Nat × Bx)) : leB s n ((i, x) :: r) = (look s.σ i = some x ∧ i < n ∧ lbBx n x ∧ leB s n r) := _root_.id rfl
theorem loopQ_r (b0 : Nat) (I : Nat → St → Prop) (m : Nat) (Q : Exit → St → Prop) (s : St) : loopQ b0 I m Q .ret s = Q .ret s := _root_.id rfl
theorem loopQ_e (b0 : Nat) (I : Nat → St → Prop) (m : Nat) (Q : Exit → St → Prop) (s : St) (i : Nat) : loopQ b0 I m Q (.exit i) s = Q (.exit i) s := _root_.id rfl

/-- A row that has been grown from nil: its value, and its box. -/
def olst (sz l i : Nat) : AV := if i = 0 then .vl (.slice none 0 0) else .osl sz l 0 i i
def obx (l i : Nat) (cs : List AV) : List (Nat × Bx) := if i = 0 then [] else [(l, .cs cs)]
theorem olst_pos (sz l i : Nat) : olst sz l (i + 1) = .osl sz l 0 (i + 1) (i + 1) := by simp [olst]
theorem obx_pos (l i : Nat) (cs : List AV) : obx l (i + 1) cs = [(l, .cs cs)] := by simp [obx]
theorem eras_ne {l : Nat} {σ : List (Nat × Bx)} (h : ∀ x, look σ l ≠ some x) : eras σ l = σ := by
  induction σ with
  | nil => rfl
  | cons p r ih =>
    obtain ⟨j, y⟩ := p
    have hne : ¬ l = j := fun e => h y (by simp [look, e])
    simp only [eras, if_neg hne]
    rw [ih]
    intro x hx
    exact h x (by simp [look, hne, hx])
/-- The other boxes, when the row's box is used up. -/
def erax (l i : Nat) (σ : List (Nat × Bx)) : List (Nat × Bx) := if i = 0 then σ else eras σ l
theorem erax_cons {l i j : Nat} (h : (l == j) = false) (x : Bx) (σ : List (Nat × Bx)) : erax l i ((j, x) :: σ) = (j, x) :: erax l i σ := by
  cases i with
  | zero => rfl
  | succ i => simp only [erax, Nat.add_eq_zero_iff, Nat.one_ne_zero, and_false, if_false, eras_miss h]
theorem erax_obx {l i : Nat} {cs : List AV} {r : List (Nat × Bx)} (h : ∀ x, look r l ≠ some x) : erax l i (obx l i cs ++ r) = r := by
  cases i with
  | zero => rfl
  | succ i => simp only [erax, Nat.add_eq_zero_iff, Nat.one_ne_zero, and_false, if_false, obx_pos, List.cons_append, List.nil_append, eras_hit, eras_ne h]
theorem look_self {l i : Nat} (h : 0 < i) (cs : List AV) (r : List (Nat × Bx)) : look (obx l i cs ++ r) l = some (.cs cs) := by
  cases i with
  | zero => omega
  | succ i => simp only [obx_pos, List.cons_append, look_hit]
theorem app_own {t : List (Nat × AV)} {σ : List (Nat × Bx)} {n l i sz by' m : Nat} {cs news : List AV} {K : St → AV → Prop} {u : DU K} (hcs : cs.length = i * sz) (hl : 0 < i → look σ l = some (.cs cs)) (h1 : i + m ≤ maxLen) (h2 : (i + m) * by' ≤ 140737488355328)
    (hK : K ⟨t, (n, .cs (cs ++ news)) :: erax l i σ, n + 1⟩ (.osl sz n 0 (i + m) (i + m))) : sApp ⟨t, σ, n⟩ sz by' (olst sz l i) m news K u := by
  cases i with
  | zero =>
    have e : cs = [] := List.eq_nil_of_length_eq_zero (by simpa using hcs)
    subst e
    simp only [olst, if_true, sApp_nil, St.new]
    simp only [Nat.zero_add, List.nil_append, erax, if_true] at h1 h2 hK
    exact ⟨⟨h1, h2⟩, hK⟩
  | succ i =>
    simp only [olst_pos, sApp_osl, hl (by omega), appB_some]
    refine ⟨⟨by omega, h1, h2⟩, ?_⟩
    simp only [St.move]
    rw [List.take_of_length_le (by omega)]
    simpa only [erax, Nat.add_eq_zero_iff, Nat.one_ne_zero, and_false, if_false] using hK
/-- A row that is nil or own. -/
def olb (b : Bool) (sz l i : Nat) : AV := if b then .vl (.slice none 0 0) else .osl sz l 0 i i
def obb (b : Bool) (l : Nat) (cs : List AV) : List (Nat × Bx) := if b then [] else [(l, .cs cs)]
def erab (b : Bool) (l : Nat) (σ : List (Nat × Bx)) : List (Nat × Bx) := if b then σ else eras σ l
theorem olb_f (sz l i : Nat) : olb false sz l i = .osl sz l 0 i i := rfl
theorem olb_t (sz l i : Nat) : olb true sz l i = .vl (.slice none 0 0) := rfl
theorem obb_f (l : Nat) (cs : List AV) : obb false l cs = [(l, .cs cs)] := rfl
theorem obb_t (l : Nat) (cs : List AV) : obb true l cs = [] := rfl
theorem erab_cons {b : Bool} {l j : Nat} (h : (l == j) = false) (x : Bx) (σ : List (Nat × Bx)) : erab b l ((j, x) :: σ) = (j, x) :: erab b l σ := by
  cases b with
  | true => rfl
  | false => simp only [erab, Bool.false_eq_true, if_false, eras_miss h]
theorem erab_obb {b : Bool} {l : Nat} {cs : List AV} {r : List (Nat × Bx)} (h : ∀ x, look r l ≠ some x) : erab b l (obb b l cs ++ r) = r := by
  cases b with
  | true => rfl
  | false => simp only [erab, Bool.false_eq_true, if_false, obb, List.cons_append, List.nil_append, eras_hit, eras_ne h]
theorem look_obb {b : Bool} {j l : Nat} (h : (j == l) = false) (cs : List AV) (r : List (Nat × Bx)) : look (obb b l cs ++ r) j = look r j := by
  cases b with
  | true => rfl
  | false => exact look_miss h _ _
theorem lookb_self {b : Bool} {l : Nat} (h : b = false) (cs : List AV) (r : List (Nat × Bx)) : look (obb b l cs ++ r) l = some (.cs cs) := by
  subst h
  simp only [obb_f, List.cons_append, look_hit]
theorem upd_obb {b : Bool} {j l : Nat} (h : (j == l) = false) (cs : List AV) (r : List (Nat × Bx)) (y : Bx) : upd (obb b l cs ++ r) j y = obb b l cs ++ upd r j y := by
  cases b with
  | true => rfl
  | false => exact upd_miss h _ _ _
theorem app_ownb {t : List (Nat × AV)} {σ : List (Nat × Bx)} {n l i sz by' m : Nat} {b : Bool} {cs news : List AV} {K : St → AV → Prop} {u : DU K} (hcs : cs.length = i * sz) (hb : b = true → i = 0 ∧ cs = []) (hl : b = false → look σ l = some (.cs cs)) (h1 : i + m ≤ maxLen) (h2 : (i + m) * by' ≤ 140737488355328)
    (hK : K ⟨t, (n, .cs (cs ++ news)) :: erab b l σ, n + 1⟩ (.osl sz n 0 (i + m) (i + m))) : sApp ⟨t, σ, n⟩ sz by' (olb b sz l i) m news K u := by
  cases b with
  | true =>
    obtain ⟨rfl, rfl⟩ := hb rfl
    simp only [olb_t, sApp_nil, St.new]
    simp only [Nat.zero_add, List.nil_append, erab, if_true] at h1 h2 hK
    exact ⟨⟨h1, h2⟩, hK⟩
  | false =>
    simp only [olb_f, sApp_osl, hl rfl, appB_some]
    refine ⟨⟨by omega, h1, h2⟩, ?_⟩
    simp only [St.move]
    rw [List.take_of_length_le (by omega)]
    simpa only [erab, Bool.false_eq_true, if_false] using hK
theorem leB_obb {s : St} {n l : Nat} {b : Bool} {cs : List AV} (h : b = false → look s.σ l = some (.cs cs) ∧ l < n ∧ lbs n cs) : leB s n (obb b l cs) := by
  cases b with
  | true => simp [obb, leB]
  | false =>
    have := h rfl
    simp only [obb_f, leB]
    exact ⟨this.1, this.2.1, this.2.2, trivial⟩
theorem lb_olb {b : Bool} {n sz l i : Nat} (h : l < n) : lb n (olb b sz l i) := by
  cases b <;> simp [olb, lb, h]
theorem leB_obx {s : St} {n l i : Nat} {cs : List AV} (h : 0 < i → look s.σ l = some (.cs cs) ∧ l < n ∧ lbs n cs) : leB s n (obx l i cs) := by
  cases i with
  | zero => simp [obx, leB]
  | succ i =>
    have := h (by omega)
    simp only [obx_pos, leB]
    exact ⟨this.1, this.2.1, this.2.2, trivial⟩
theorem leB_app {s : St} {n : Nat} : ∀ {σ τ : List (Nat × Bx)}, leB s n (σ ++ τ) ↔ leB s n σ ∧ leB s n τ
  | [], τ => by simp [leB]
  | (l, x) :: r, τ => by simp only [List.cons_append, leB, leB_app (σ := r), and_assoc]
theorem lb_olst {n sz l i : Nat} (h : l < n) : lb n (olst sz l i) := by
  cases i with
  | zero => simp [olst, lb]
  | succ i => simp [olst_pos, lb, h]
theorem look_obx {j l i : Nat} (h : (j == l) = false) (cs : List AV) (r : List (Nat × Bx)) : look (obx l i cs ++ r) j = look r j := by
  cases i with
  | zero => simp [obx]
  | succ i =>
    simp only [obx_pos, List.cons_append, List.nil_append]
    exact look_miss h _ _
theorem eras_obx {j l i : Nat} (h : (j == l) = false) (cs : List AV) (r : List (Nat × Bx)) : eras (obx l i cs ++ r) j = obx l i cs ++ eras r j := by
  cases i with
  | zero => simp [obx]
  | succ i =>
    simp only [obx_pos, List.cons_append, List.nil_append]
    exact eras_miss h _ _
theorem upd_obx {j l i : Nat} (h : (j == l) = false) (cs : List AV) (r : List (Nat × Bx)) (y : Bx) : upd (obx l i cs ++ r) j y = obx l i cs ++ upd r j y := by
  cases i with
  | zero => simp [obx]
  | succ i =>
    simp only [obx_pos, List.cons_append, List.nil_append]
    exact upd_miss h _ _ _
/-- What a grown row is when it is let go. -/
theorem frz_olst {σ : List (Nat × Bx)} {d sz l i : Nat} {cs : List AV} (h : 0 < i → look σ l = some (.cs cs)) (hc : cs.length = i * sz) : frz σ (d + 1) (olst sz l i) = if i = 0 then .vl (.slice none 0 0) else .sl ((chunks sz i cs).map fun e => e.map (frz σ d)) := by
  cases i with
  | zero => simp [olst, frz]
  | succ i => simp [olst_pos, frz, h (by omega), hc]
theorem nb {a b : Nat} (h : a ≠ b) : (a == b) = false := by simpa using h
theorem chunks_flat {sz : Nat} : ∀ {es : List (List AV)}, (∀ e ∈ es, e.length = sz) → chunks sz es.length es.flatten = es
  | [], _ => rfl
  | e :: es, h => by
    have h1 := h e (by simp)
    simp only [List.length_cons, chunks, List.flatten_cons]
    rw [List.take_append_of_le_length (by omega), List.take_of_length_le (by omega), List.drop_append_of_le_length (by omega), List.drop_of_length_le (by omega), List.nil_append, chunks_flat fun e he => h e (by simp [he])]
theorem flat_len {sz : Nat} : ∀ {es : List (List AV)}, (∀ e ∈ es, e.length = sz) → es.flatten.length = es.length * sz
  | [], _ => by simp
  | e :: es, h => by
    rw [List.flatten_cons, List.length_append, flat_len fun e he => h e (by simp [he]), h e (by simp), List.length_cons, Nat.add_mul]
    omega
theorem lbs_flat {n : Nat} : ∀ {es : List (List AV)}, (∀ e ∈ es, lbs n e) → lbs n es.flatten
  | [], _ => trivial
  | e :: es, h => by
    refine (lbs_iff _ _).2 fun x hx => ?_
    rw [List.flatten_cons, List.mem_append] at hx
    rcases hx with hx | hx
    · exact (lbs_iff _ _).1 (h e (by simp)) x hx
    · exact (lbs_iff _ _).1 (lbs_flat fun e he => h e (by simp [he])) x hx
theorem lbs_app {n : Nat} {xs ys : List AV} : lbs n (xs ++ ys) ↔ lbs n xs ∧ lbs n ys := by
  simp only [lbs_iff, List.mem_append]
  exact ⟨fun h => ⟨fun x hx => h x (.inl hx), fun x hx => h x (.inr hx)⟩, fun h x hx => hx.elim (h.1 x) (h.2 x)⟩
/-- A row that has been grown out of described elements, when it is let go. -/
theorem frz_rows {σ : List (Nat × Bx)} {d sz l : Nat} {es : List (List AV)} (h : 0 < es.length → look σ l = some (.cs es.flatten)) (hs : ∀ e ∈ es, e.length = sz) (hf : ∀ e ∈ es, e.map (frz σ d) = e) :
    frz σ (d + 1) (olst sz l es.length) = if es.length = 0 then .vl (.slice none 0 0) else .sl es := by
  rw [frz_olst h (flat_len hs), chunks_flat hs]
  have : (es.map fun e => e.map (frz σ d)) = es := by
    conv => rhs; rw [← List.map_id es]
    exact List.map_congr_left hf
  rw [this]
theorem frz_rowsb {b : Bool} {σ : List (Nat × Bx)} {d sz l : Nat} {es : List (List AV)} (h : b = false → look σ l = some (.cs es.flatten)) (hs : ∀ e ∈ es, e.length = sz) (hf : ∀ e ∈ es, e.map (frz σ d) = e) :
    frz σ (d + 1) (olb b sz l es.length) = if b then .vl (.slice none 0 0) else .sl es := by
  cases b with
  | true => simp [olb, frz]
  | false =>
    simp only [olb_f, frz, h rfl, Nat.zero_add, List.drop_zero, flat_len hs, Nat.le_refl, if_true, chunks_flat hs, Bool.false_eq_true, if_false]
    congr 1
    conv => rhs; rw [← List.map_id es]
    exact List.map_congr_left hf
theorem lenV_olb' {K : AV → Prop} {u : DU K} {b : Bool} {sz l i : Nat} (h : b = true → i = 0) : lenV (olb b sz l i) K u = K (.vl (.int .i64 i)) := by
  cases b with
  | true =>
    rw [h rfl]
    rfl
  | false => rfl
/-- A result may be told by less. -/
theorem FC_sub {P : Program} {f : FuncId} {N : Nat} {args : List AV} {σ : List (Nat × Bx)} {N' : Nat} {post post' : AV → List (Nat × Bx) → Prop} (h : FC P f N args σ N' post) (hp : ∀ r σ', post r σ' → ∃ r', post' r' σ' ∧ ∀ k v, Den k r v → Den k r' v) : FC P f N args σ N' post' := by
  intro w M ρ vs h1 h2 h3 h4
  refine (h w M ρ vs h1 h2 h3 h4).mono ?_
  rintro e w' ⟨v, ρ', r, σ', a1, a2, a3, a4, a5, a6, a7, a8⟩
  obtain ⟨r', b1, b2⟩ := hp r σ' a2
  exact ⟨v, ρ', r', σ', a1, b1, a3, a4, a5, a6, a7, fun ρ'' hρ => ⟨b2 _ _ (a8 ρ'' hρ).1, (a8 ρ'' hρ).2⟩⟩
theorem FP_sub {P : Program} {f : FuncId} {args : List AV} {post post' : AV → Prop} (h : FP P f args post) (hp : ∀ r, post r → ∃ r', post' r' ∧ ∀ k v, Den k r v → Den k r' v) : FP P f args post' :=
  FC_sub h fun r σ' hr => by
    obtain ⟨r', h1, h2⟩ := hp r hr.1
    exact ⟨r', ⟨h1, hr.2⟩, h2⟩
/-- The second description says less. -/
def avle (x y : AV) : Prop := ∀ k v, Den k x v → Den k y v
def avles : List AV → List AV → Prop
  | [], [] => True
  | x :: xs, y :: ys => avle x y ∧ avles xs ys
  | _, _ => False
theorem avle_refl (x : AV) : avle x x := fun _ _ h => h
theorem avles_refl : ∀ xs : List AV, avles xs xs
  | [] => trivial
  | x :: xs => ⟨avle_refl x, avles_refl xs⟩
theorem avles_ok {k : KW} : ∀ {xs ys : List AV} {vs : List Value}, avles xs ys → DenL k xs vs → DenL k ys vs
  | [], [], _, _, h => h
  | x :: xs, y :: ys, [], _, h => by simp [DenL] at h
  | x :: xs, y :: ys, v :: vs, ha, h => by
    simp only [DenL] at h ⊢
    exact ⟨ha.1 k v h.1, avles_ok ha.2 h.2⟩
  | [], _ :: _, _, ha, _ => ha.elim
  | _ :: _, [], _, ha, _ => ha.elim
theorem avle_agg {xs ys : List AV} (h : avles xs ys) : avle (.agg xs) (.agg ys) := by
  intro k v hd
  simp only [Den] at hd ⊢
  obtain ⟨vs, rfl, hd⟩ := hd
  exact ⟨vs, rfl, avles_ok h hd⟩
theorem avle_tup {xs ys : List AV} (h : avles xs ys) : avle (.tup xs) (.tup ys) := by
  intro k v hd
  simp only [Den] at hd ⊢
  obtain ⟨vs, rfl, hd⟩ := hd
  exact ⟨vs, rfl, avles_ok h hd⟩
theorem den_nil {k : KW} {v : Value} (h : Den k (.vl (.slice none 0 0)) v) : Den k (.sl []) v := by
  simp only [Den] at h
  subst h
  simp only [Den, List.length_nil]
  exact ⟨none, 0, rfl, Nat.le_refl _, Nat.zero_le _, .inl trivial⟩
theorem avle_nil : avle (.vl (.slice none 0 0)) (.sl []) := fun _ _ h => den_nil h
theorem avle_olb (b : Bool) {es : List (List AV)} (h : b = true → es = []) : avle (if b then .vl (.slice none 0 0) else .sl es) (.sl es) := by
  cases b with
  | true =>
    rw [h rfl]
    exact avle_nil
  | false => exact avle_refl _
/-- A contract with less said of the result. -/
theorem FP_le {P : Program} {f : FuncId} {args : List AV} {r r' : AV} (h : FP P f args (fun x => x = r)) (hr : avle r r') : FP P f args (fun x => x = r') := FP_sub h fun x hx => ⟨r', rfl, hx ▸ hr⟩

theorem sStrip_olst (c : Bool) (sz l i : Nat) (K : AV → Prop) (u : DU K) : sStrip c (olst sz l i) K u = K (olst sz l i) := by cases i <;> simp only [olst, sStrip_vl, sStrip_osl, if_true, Nat.add_eq_zero_iff, Nat.succ_ne_self, if_false, and_false, Nat.one_ne_zero]
theorem cells_olst (sz l i : Nat) : AV.cells (olst sz l i) = [olst sz l i] := by cases i <;> simp [olst, AV.cells]
theorem sStrip_olb (c b : Bool) (sz l i : Nat) (K : AV → Prop) (u : DU K) : sStrip c (olb b sz l i) K u = K (olb b sz l i) := by cases b <;> simp only [olb, sStrip_vl, sStrip_osl, if_true, if_false, Bool.false_eq_true]
theorem cells_olb (b : Bool) (sz l i : Nat) : AV.cells (olb b sz l i) = [olb b sz l i] := by cases b <;> simp [olb, AV.cells]
theorem isCell_olb (b : Bool) (sz l i : Nat) : AV.isCell (olb b sz l i) = true := by cases b <;> simp [olb, AV.isCell, Value.oneCell']
theorem isCell_olst (sz l i : Nat) : AV.isCell (olst sz l i) = true := by cases i <;> simp [olst, AV.isCell, Value.oneCell']
theorem lenV_olst (K : AV → Prop) (u : DU K) (sz l i : Nat) : lenV (olst sz l i) K u = K (.vl (.int .i64 i)) := by cases i <;> simp [olst, lenV, asSl]
attribute [go_sem] sOps_nil sOps_mv sOps_bin sOps_beq sOps_beqs sOps_un sOps_conv sOps_faddr sOps_iaddr sOps_aaddr sOps_idx sOps_len sOps_slen sOps_ext sOps_mm sOps_load sOps_pick sOps_slc sOps_mks sOps_alloc
attribute [go_sem] sOps_box sOps_build sOps_bsl sOps_mkf sOps_store sOps_call sOps_callv callvV_fn sOps_append sOps_gd callvV_y sOps_lkp sOps_mkm sOps_mset msetV_mp msetB_some lkpV_mp lkpV_imp lkpB_some sDops_nil
attribute [go_sem] sDops_mv sDops_bin sDops_beq sDops_beqs sDops_un sDops_conv sDops_faddr sDops_iaddr sDops_aaddr sDops_idx sDops_len sDops_slen sDops_ext sDops_mm sDops_load sDops_pick sDops_slc sDops_mks sDops_alloc sDops_box
attribute [go_sem] sDops_build sDops_bsl sDops_mkf sDops_gd sDops_lkp sDops_callv callvR_fn sDops_call sGg_mv sGg_bin sGg_beq sGg_beqs sGg_un sGg_conv sGg_faddr sGg_iaddr sGg_aaddr sGg_idx sGg_len sGg_slen
attribute [go_sem] sGg_ext sGg_mm sGg_load sGg_pick sGg_slc sGg_alloc sGg_box sGg_bsl sGg_build sGg_mkf sGg_lkp sGg_call sGv_call sGv_mv sGv_pick sGv_alloc sGv_box sGv_build sGv_bsl sGv_load
attribute [go_sem] sGv_store sGv_bin sGv_beq sGv_un sGv_conv sGv_faddr sGv_iaddr sGv_aaddr sGv_idx sGv_len sGv_slen sGv_ext sGv_mkf sGv_mm sGv_beqs sGv_mks sGv_slc sGv_lkp sStrip_imp mkgd_imp
attribute [go_sem] sStrip_vl mkgd_vl sStrip_sl mkgd_sl sStrip_dp mkgd_dp sStrip_agg mkgd_agg sStrip_tup mkgd_tup sStrip_ptr mkgd_ptr sStrip_fn mkgd_fn sStrip_osl mkgd_osl sStrip_mp mkgd_mp sStrip_ce mkgd_ce
attribute [go_sem] sStrip_gd mkgd_gd sStripL_nil sStripL_cons gdV_t gdV_f gdV_gt gdV_gf pickV_or pickV_and orV_b andV_b sBin_add sBin_add_u64 sBin_add_u32 sBin_add_u8 sBin_sub sBin_sub_u64 sBin_sub_u32 sBin_sub_u8
attribute [go_sem] sBin_mul sBin_mul_u64 sBin_mul_u32 sBin_mul_u8 sBin_quo sBin_quo_u64 sBin_rem sBin_and sBin_or sBin_xor sBin_andNot sBin_shl sBin_shr sBin_eql sBin_neq sBin_lss sBin_leq sBin_gtr sBin_geq sBin_seql
attribute [go_sem] sBin_sneq loadV_dp loadV_ptr loadB_some sStore_ptr storeB_some slcV_sl slcV_osl sSlcB_n sSlcB_s asInt_i mksV_i sNews_sl sNews_osl newsB_some sNews_nil sApp_nil sApp_osl appB_some move_mk
attribute [go_sem] eras_nil eras_hit eras_miss iaddrV_sl iaddrV_osl aaddrV_ptr aaddrV_dp idxV_agg lenV_sl lenV_osl lenV_nil slenV_s faddrV_dp faddrV_ptr extV_tup convV_i unV_not unV_neg beqV_f beqV_t
attribute [go_sem] beqsV_f beqsV_t sEqC_nil sEqC_cons sEqS_i sEqS_b sEqS_s isRow_agg isRow_vl ite_tt ite_ff mmV_t mmV_f boxV_eq sFill_nil sFill_cons sVc_skip sVc_reg sVc_draw sVc_seq
attribute [go_sem] thenV_n thenV_r thenV_e sVc_cond sVc_block blkV_n blkV_r blkV_e sVc_exit sVc_ret sCond_t sCond_f endV_n endV_r ev_t ev_c ev_f get_hit get_miss get_nil
attribute [go_sem] look_hit look_miss upd_hit upd_miss put_some put_none new_one set_mk n_mk σ_mk endSt_mk nm_mk renσ_nil renσ_cons dropL_nil' dropL_none renBx_cs rens_nil' rens_cons' ren_imp'
attribute [go_sem] ren_vl' ren_any' ren_ce' ren_ptr' ren_mp' ren_osl' ren_fn' ren_agg' ren_tup' ren_dp' ren_gd' args0_nil args0_cons cells_agg cells_imp isCell_imp cells_sl isCell_sl cells_dp isCell_dp
attribute [go_sem] cells_tup cells_ptr isCell_ptr cells_fn isCell_fn cells_osl isCell_osl cells_mp isCell_mp cells_ce isCell_ce cells_int isCell_int cells_bool isCell_bool cells_string isCell_string cells_nilsl isCell_nilsl cells_map
attribute [go_sem] isCell_map cells_nilf isCell_nilf cells_nili isCell_nili cells_nilp isCell_nilp endB_n endB_r sRet_eq sRetB_eq endY_n endY_r sRes_nil sRes_t sRes_c resC_ptr resB_some tupV_1 tupV_0
attribute [go_sem] tupV_2 frz_imp frz_vl frz_sl frz_dp frz_ptr frz_mp frz_ce frz_any frz_fn frz_agg frz_tup frz_gd frz_osl frzB_some lb_vl lb_imp lb_ce lb_any lb_agg
attribute [go_sem] lb_tup lb_dp lb_sl lb_fn lb_gd lbs_nil lbs_cons rngA_n rngQ_r rngQ_e bindT_nil bindT_cons leT_nil leT_cons leB_nil leB_cons loopQ_r loopQ_e sStrip_olst cells_olst
attribute [go_sem] sStrip_olb cells_olb isCell_olb isCell_olst lenV_olst
attribute [go_sem] List.drop_zero List.drop_succ_cons List.headD_cons List.take_succ_cons List.take_zero List.take_nil List.drop_nil List.length_cons List.length_nil List.map_cons List.map_nil List.cons_append List.nil_append List.append_nil List.flatten_cons List.flatten_nil List.all_cons List.all_nil Bool.and_true Bool.true_and Bool.and_self true_and and_true true_implies forall_const implies_true imp_self Bool.not_true Bool.not_false Bool.and_false Bool.false_and Bool.or_true Bool.true_or Bool.or_false Bool.false_or List.getD_cons_zero List.getD_cons_succ Int.toNat_zero Nat.zero_mul Nat.mul_zero Nat.zero_add Nat.add_zero ite_true ite_false if_true if_false Nat.le_refl List.range'_succ List.range'_zero
end Go.QL
