/- Regions, code and contracts. -/
import Derived.Test.YtfhkfahgimibaaaFrz
import Derived.RangeFuncSeq
namespace Go.QL

def mkgd (c : Bool) : AV → AV
  | .gd d y => .gd (c && d) y
  | x => .gd c x

/-- How a call ends, told by abstract values. -/
def FCR (w : World) (M : Nat → Prop) (ρ : Nat → Option Nat) (N : Nat) (σ : List (Nat × Bx)) (N' : Nat) (post : AV → List (Nat × Bx) → Prop) (e : Ending) (w' : World) : Prop :=
  ∃ v ρ' r σ', e = .returned v ∧ post r σ' ∧ (∀ l, l < N → ρ' l = ρ l) ∧
    (∀ l x, look σ' l = some x → l < N' ∧ (l < N → (look σ l).isSome) ∧ (N ≤ l → ∀ b, ρ' l = some b → w.heap.size ≤ b ∨ Sg ρ σ b)) ∧
    (∀ l l' x x' b, look σ' l = some x → look σ' l' = some x' → ρ' l = some b → ρ' l' = some b → l = l') ∧ Fr w (Sg ρ σ) w' ∧ (∀ l x, look σ' l = some x → ∀ b y, x ≠ .yc b y) ∧
    (∀ ρ'', (∀ l, l < N' → ρ'' l = ρ' l) →
      Den ⟨w', fun b => (M b ∧ ¬ Sg ρ σ b) ∨ Sg ρ' σ' b, ρ''⟩ r v ∧ ∀ l x, look σ' l = some x → BxOK ⟨w', fun b => (M b ∧ ¬ Sg ρ σ b) ∨ Sg ρ' σ' b, ρ''⟩ l x)

/-- A contract: called with values that are so described, the function returns, and its value is so described. -/
def FC (P : Program) (f : FuncId) (N : Nat) (args : List AV) (σ : List (Nat × Bx)) (N' : Nat) (post : AV → List (Nat × Bx) → Prop) : Prop :=
  ∀ (w : World) (M : Nat → Prop) (ρ : Nat → Option Nat) (vs : List Value), (∀ b, M b → b < w.heap.size) →
    (∀ ρ', (∀ l, l < N → ρ' l = ρ l) → DenL ⟨w, M, ρ'⟩ args vs ∧ ∀ l x, look σ l = some x → BxOK ⟨w, M, ρ'⟩ l x) →
    (∀ l x, look σ l = some x → l < N) →
    (∀ l l' x x' b, look σ l = some x → look σ l' = some x' → ρ l = some b → ρ l' = some b → l = l') →
    Calls P f vs.toArray w (FCR w M ρ N σ N' post)

/-- A contract of a function that is handed no box and hands none back. -/
def FP (P : Program) (f : FuncId) (args : List AV) (post : AV → Prop) : Prop := FC P f 0 args [] 0 fun r σ => post r ∧ σ = []

/-- A yield, for the iterator: a round that hands back a truth value. -/
def YSp (P : Program) (b : Nat) (J : YJ) : Prop := ∀ x rest w X M vs, J (some (x :: rest)) w X M → (∀ ρ, DenL ⟨w, M, ρ⟩ x vs) →
  YieldAt Fence.wide 0 P b vs.toArray w fun e w' => ∃ v M', e = .returned (.bool v) ∧ J (if v then some rest else none) w' X M' ∧ Fr w (fun b => M b ∧ ¬ X b) w' ∧
    (∀ b, b < w.heap.size → M' b → M b) ∧ (∀ b, X b → M' b) ∧ ∀ b, M' b → b < w'.heap.size

/-- Whether yields are told, and all that may change is given up. -/
def Cx.Y (C : Cx) : Prop := YSp C.P C.yb C.J ∧ ∀ b, (∃ y w X M, C.J y w X M) → C.M0 b → C.S0 b

/-- An iterator's contract: what it yields. -/
def IC (P : Program) (f : FuncId) (N : Nat) (caps : List AV) (σ : List (Nat × Bx)) (xs : List (List AV)) : Prop :=
  ∀ (b : Nat) (J : YJ), YSt J → YSp P b J → ∀ (w : World) (M X : Nat → Prop) (ρ : Nat → Option Nat) (vs : List Value), J (some xs) w X M → (∀ b, M b → b < w.heap.size) → (∀ b, X b → M b) → (∀ b, Sg ρ σ b → X b) →
    (∀ ρ', (∀ l, l < N → ρ' l = ρ l) → DenL ⟨w, M, ρ'⟩ caps vs ∧ ∀ l x, look σ l = some x → BxOK ⟨w, M, ρ'⟩ l x) →
    (∀ l x, look σ l = some x → l < N ∧ ∀ b y, x ≠ .yc b y) → (∀ l l' x x' b, look σ l = some x → look σ l' = some x' → ρ l = some b → ρ l' = some b → l = l') →
    Calls P f (Value.func (.yield b) #[] #[] :: vs).toArray w fun e w' => ∃ v y X' M', e = .returned v ∧ (y = some [] ∨ y = none) ∧ J y w' X' M'

/-- A call: a contract, and what follows. -/
def CallO (P : Program) (f : FuncId) (as : List AV) (s : St) (dst : Option Nat) (K : St → Prop) : Prop :=
  lbs 0 as ∧ ∃ post, FP P f as post ∧ ∀ r, post r → K (s.put dst r)

/-- The caller's names of the callee's labels. -/
def nm (s : St) (π : List Nat) (N' : Nat) : List Nat := π ++ List.range' s.n (N' - π.length)

def dropL (ks : List Nat) : List (Nat × Bx) → List (Nat × Bx)
  | [] => []
  | (j, x) :: r => if ks.contains j then dropL ks r else (j, x) :: dropL ks r

/-- The state behind a call that was handed boxes. -/
def endSt (s : St) (π : List Nat) (N' : Nat) (σc σ' : List (Nat × Bx)) : St :=
  { t := s.t, σ := (σ'.map fun p => ((nm s π N').getD p.1 0, renBx (nm s π N') p.2)) ++ dropL (σc.map fun p => π.getD p.1 0) s.σ, n := s.n + (N' - π.length) }

/-- A call that is handed boxes: the callee's labels, the caller's names of them. -/
def CallB (P : Program) (f : FuncId) (as : List AV) (s : St) (dst : Option Nat) (K : St → Prop) : Prop :=
  ∃ (π : List Nat) (as' : List AV) (σc : List (Nat × Bx)) (N' : Nat) (post : AV → List (Nat × Bx) → Prop),
    as = rens π as' ∧ lbs π.length as' ∧ π.Nodup ∧ (∀ l ∈ π, l < s.n) ∧ π.length ≤ N' ∧
    (∀ l x, look σc l = some x → l < π.length ∧ lbBx π.length x ∧ look s.σ (π.getD l 0) = some (renBx π x)) ∧ FC P f π.length as' σc N' post ∧
    ∀ r σ', post r σ' → lb N' r ∧ (∀ l x, look σ' l = some x → lbBx N' x) ∧ K ((endSt s π N' σc σ').put dst (ren (nm s π N') r))

/-- A call that is handed own rows for good. -/
def CallF (P : Program) (f : FuncId) (as : List AV) (s : St) (dst : Option Nat) (K : St → Prop) : Prop :=
  ∃ ls : List Nat, lbs 0 (as.map (frz (keepL ls s.σ) 2)) ∧ ∃ post, FP P f (as.map (frz (keepL ls s.σ) 2)) post ∧ ∀ r, post r → K (St.put { s with σ := dropL ls s.σ } dst r)

def CallA (P : Program) (f : FuncId) (as : List AV) (s : St) (dst : Option Nat) (K : St → Prop) : Prop := CallO P f as s dst K ∨ CallB P f as s dst K ∨ CallF P f as s dst K

/-- A function can be entered. -/
def Ent (P : Program) (n : FuncId) : Prop := ∀ args w, (callFunc n args).run P w = .ok (.enter n args) w

/-- A call under a guard: what it gives is told beforehand. -/
def CallG (P : Program) (f : FuncId) (c : Bool) (as : List AV) (s : St) (dst : Option Nat) (K : St → Prop) : Prop :=
  lbs 0 as ∧ ∃ r, (c = true → FP P f as fun x => x = r) ∧ K (s.put dst (mkgd c r))

/-- Either way of a test. -/
def CondO (x : AV) (A B : Prop) : Prop :=
  match x with
  | .vl (.bool p) => (p = true → A) ∧ (p = false → B)
  | _ => False

def LoopO (A : Prop) : Prop := A

theorem CallO.cong {P : Program} {f : FuncId} {as as' : List AV} {s : St} {dst : Option Nat} {K : St → Prop} (h : as = as') : CallO P f as s dst K = CallO P f as' s dst K := by rw [h]
theorem CallG.cong {P : Program} {f : FuncId} {c c' : Bool} {as as' : List AV} {s : St} {dst : Option Nat} {K : St → Prop} (hc : c = c') (h : as = as') : CallG P f c as s dst K = CallG P f c' as' s dst K := by rw [h, hc]
theorem CondO.cong {x x' : AV} {A B : Prop} (h : x = x') : CondO x A B = CondO x' A B := by rw [h]
theorem LoopO.cong {A : Prop} : LoopO A = LoopO A := rfl

def stripL (c : Bool) : List AV → (List AV → Prop) → Prop
  | [], K => K []
  | x :: xs, K => strip c x fun y => stripL c xs fun ys => K (y :: ys)

/-- A store into an own box. -/
def storeV (n : Nat) (a x : AV) (s : St) (K : St → Prop) : Prop :=
  match a with
  | .ptr l off => match look s.σ l with
    | some (.cs cs) => (x.cells.length = n ∧ off + n ≤ cs.length ∧ x.cells.all AV.isCell = true) ∧ K (s.set l (.cs (cs.take off ++ x.cells ++ cs.drop (off + n))))
    | _ => False
  | _ => False

/-- The cells that are put behind a row. -/
def newsV (s : St) (sz : Nat) (y : AV) (K : Nat → List AV → Prop) : Prop :=
  match y with
  | .osl sz' l off len _ => match look s.σ l with
    | some (.cs cs) => (sz' = sz ∧ off + len * sz ≤ cs.length) ∧ K len ((cs.drop off).take (len * sz))
    | _ => False
  | y => match asSl y with
    | some es => (∀ e ∈ es, e.length = sz) ∧ K es.length es.flatten
    | none => False

/-- A row that grows. -/
def appV (s : St) (sz bytes : Nat) (x : AV) (m : Nat) (news : List AV) (K : St → AV → Prop) : Prop :=
  match x with
  | .vl (.slice none 0 0) => (m ≤ maxLen ∧ m * bytes ≤ 140737488355328) ∧ K (s.new [.cs news]) (.osl sz s.n 0 m m)
  | .osl sz' l off len _ => match look s.σ l with
    | some (.cs cs) => (sz' = sz ∧ off = 0 ∧ len * sz ≤ cs.length ∧ len + m ≤ maxLen ∧ (len + m) * bytes ≤ 140737488355328) ∧ K (s.move l (.cs (cs.take (len * sz) ++ news))) (.osl sz s.n 0 (len + m) (len + m))
    | _ => False
  | _ => False

/-- A call of the yield function. -/
def YieldO (b : Nat) (as : List AV) (s : St) (dst : Option Nat) (K : St → Prop) : Prop :=
  ∃ l rest, look s.σ l = some (.yc b (some (as :: rest))) ∧ lbs 0 as ∧ K ((s.set l (.yc b (some rest))).put dst (.vl (.bool true))) ∧ K ((s.set l (.yc b none)).put dst (.vl (.bool false)))

/-- A store into a map, under a key that it does not hold. -/
def msetE (ks : List Nat) (es : List (Value × AV)) (key x : AV) (K : List (Value × AV) → Prop) : Prop :=
  match key.toVal with
  | some kv => (Value.isAggV kv = true ∧ (eqVs ks kv.cells.toList kv.cells.toList).isSome = true ∧ ∀ e ∈ es, Value.isAggV e.1 = true) ∧ findV ks kv.cells.toList es 0 = some none ∧ K (es ++ [(kv, x)])
  | none => False

/-- An operation without a guard. -/
def vgo (P : Program) (dst : Option Nat) (m : MO) (s : St) (K : St → Prop) : Prop :=
  match m with
  | .store n a x => strip true (s.ev a) fun a => strip true (s.ev x) fun x => storeV n a x s fun s' => K (s'.put dst (.vl undef))
  | .call f args => stripL true (args.map s.ev) fun as => CallA P f as s dst K
  | .callv f args => strip true (s.ev f) fun
    | .fn (.func n) first caps => stripL true (args.map s.ev) fun as => Ent P n ∧ CallA P n (first ++ as ++ caps) s dst K
    | .vl (.func (.yield b) fs cs) => stripL true (args.map s.ev) fun as => (fs = #[] ∧ cs = #[]) ∧ YieldO b as s dst K
    | _ => False
  | .mkm => K ((s.new [.mp []]).put dst (.mp s.n))
  | .mset ks m key x => strip true (s.ev m) fun
    | .mp l => match look s.σ l with
      | some (.mp es) => strip true (s.ev key) fun key => strip true (s.ev x) fun x => msetE ks es key x fun es' => K ((s.set l (.mp es')).put dst (.vl undef))
      | _ => False
    | _ => False
  | .append sz bytes x y => strip true (s.ev x) fun X => strip true (s.ev y) fun Y => newsV s sz Y fun m news => appV s sz bytes X m news fun s' r => K (s'.put dst r)
  | .other => False
  | m => qv true m s.ev (look s.σ) s.n fun r ν => K ((s.new ν).put dst r)

/-- An operation under a guard whose value is told by c. -/
def vgg (P : Program) (dst : Option Nat) (c : Bool) (m : MO) (s : St) (K : St → Prop) : Prop :=
  match m with
  | .call f args => stripL c (args.map s.ev) fun as => CallG P f c as s dst K
  | .store _ _ _ => False
  | .callv _ _ => False
  | .append _ _ _ _ => False
  | .other => False
  | .alloc z => bif c then qv true (.alloc z) s.ev (look s.σ) s.n fun r ν => K ((s.new ν).put dst r) else K (s.put dst (.gd false .any))
  | .box n x => bif c then qv true (.box n x) s.ev (look s.σ) s.n fun r ν => K ((s.new ν).put dst r) else K (s.put dst (.gd false .any))
  | .mks sz by' z x y => bif c then qv true (.mks sz by' z x y) s.ev (look s.σ) s.n fun r ν => K ((s.new ν).put dst r) else K (s.put dst (.gd false .any))
  | .bsl sz len z ps => bif c then qv true (.bsl sz len z ps) s.ev (look s.σ) s.n fun r ν => K ((s.new ν).put dst r) else K (s.put dst (.gd false .any))
  | m => qv c m s.ev (look s.σ) s.n fun r ν => ν = [] ∧ K (s.put dst (mkgd c r))

/-- .. in sequence: a call under a guard that holds is any call. -/
def vgv (P : Program) (dst : Option Nat) (c : Bool) (m : MO) (s : St) (K : St → Prop) : Prop :=
  match m with
  | .call f args => stripL c (args.map s.ev) fun as => CallG P f c as s dst K ∨ (c = true ∧ CallA P f as s dst K)
  | m => vgg P dst c m s K

def vop (P : Program) (o : GO) (s : St) (K : St → Prop) : Prop :=
  match o.g with
  | none => vgo P o.dst o.op s K
  | some (t, want) => match s.get t with
    | .vl (.bool p) => vgv P o.dst (if want then p else !p) o.op s K
    | .gd d (.vl (.bool p)) => vgv P o.dst (d && (if want then p else !p)) o.op s K
    | _ => False

def vops (P : Program) : List GO → St → (St → Prop) → Prop
  | [], s, K => K s
  | o :: os, s, K => vop P o s fun s' => vops P os s' K

/-- A call whose result is told. -/
def CallT (P : Program) (f : FuncId) (as : List AV) (s : St) (dst : Option Nat) (K : St → Prop) : Prop :=
  lbs 0 as ∧ ∃ r, FP P f as (fun x => x = r) ∧ K (s.put dst r)

/-- A call whose result is told, and which leaves the boxes that it is handed as they are. -/
def CallR (P : Program) (n0 : Nat) (f : FuncId) (as : List AV) (s : St) (dst : Option Nat) (K : St → Prop) : Prop :=
  CallT P f as s dst K ∨ ∃ (π : List Nat) (as' : List AV) (σc : List (Nat × Bx)) (r : AV),
    as = rens π as' ∧ lbs π.length as' ∧ π.Nodup ∧ (∀ l ∈ π, l < n0) ∧
    (∀ l x, look σc l = some x → l < π.length ∧ lbBx π.length x ∧ look s.σ (π.getD l 0) = some (renBx π x)) ∧ lb 0 r ∧
    FC P f π.length as' σc π.length (fun x σ' => x = r ∧ ∀ l y, look σc l = some y → look σ' l = some y) ∧ K (s.put dst r)

def vdo (P : Program) (n0 : Nat) (dst : Option Nat) (m : MO) (s : St) (K : St → Prop) : Prop :=
  match m with
  | .call f args => stripL true (args.map s.ev) fun as => CallR P n0 f as s dst K
  | .callv f args => strip true (s.ev f) fun
    | .fn (.func n) first caps => stripL true (args.map s.ev) fun as => Ent P n ∧ CallR P n0 n (first ++ as ++ caps) s dst K
    | _ => False
  | .store _ _ _ => False
  | .append _ _ _ _ => False
  | .other => False
  | m => qv true m s.ev (look s.σ) s.n fun r ν => K ((s.new ν).put dst r)

def vdop (P : Program) (n0 : Nat) (o : GO) (s : St) (K : St → Prop) : Prop :=
  match o.g with
  | none => vdo P n0 o.dst o.op s K
  | some (t, want) => match s.get t with
    | .vl (.bool p) => vgg P o.dst (if want then p else !p) o.op s K
    | .gd d (.vl (.bool p)) => vgg P o.dst (d && (if want then p else !p)) o.op s K
    | _ => False

def vdops (P : Program) (n0 : Nat) : List GO → St → (St → Prop) → Prop
  | [], s, K => K s
  | o :: os, s, K => vdop P n0 o s fun s' => vdops P n0 os s' K

inductive MC where
  | skip
  | reg (ops : List GO)
  | draw (qs es : List GO)
  | seq (a b : MC)
  | cond (c : Operand) (a b : MC)
  | block (id : Nat) (c : MC)
  | loop (c : MC)
  | exit (id : Nat)
  | ret
  | rng (g : Operand) (ps : List Nat) (a b : MC)

/-- Less is known of the second state. -/
structure St.le (s s' : St) : Prop where
  t : ∀ i x, (i, x) ∈ s'.t → s'.get i = x → s.get i = x
  σ : ∀ l x, look s'.σ l = some x → look s.σ l = some x
  n : s'.n ≤ s.n
  lt : ∀ i x, (i, x) ∈ s'.t → lb s'.n x
  lσ : ∀ l x, look s'.σ l = some x → l < s'.n ∧ lbBx s'.n x

/-- The temporaries of a round. -/
def bindT : List Nat → List AV → List (Nat × AV) → List (Nat × AV)
  | p :: ps, x :: xs, T => bindT ps xs ((p, x) :: T)
  | _, _, T => T

/-- A range over an iterator. -/
def RangeO (P : Program) (b0 : Nat) (ps : List Nat) (vb : Nat → St → (Exit → St → Prop) → Prop) (x : AV) (s : St) (Q : Exit → St → Prop) : Prop :=
  match x with
  | .fn (.func gf) [] caps => Ent P gf ∧
    ∃ (π : List Nat) (caps' : List AV) (σc : List (Nat × Bx)) (xs : List (List AV)) (T : List (Nat × AV)) (I : List (List AV) → List (Nat × Bx) → Nat → Prop),
      caps = rens π caps' ∧ lbs π.length caps' ∧ π.Nodup ∧ (∀ l ∈ π, l < s.n) ∧
      (∀ l x, look σc l = some x → l < π.length ∧ lbBx π.length x ∧ look s.σ (π.getD l 0) = some (renBx π x)) ∧
      IC P gf π.length caps' σc xs ∧ (∀ x ∈ xs, x.length = ps.length ∧ lbs 0 x) ∧
      (∃ σ0 n0, I xs σ0 n0 ∧ b0 ≤ n0 ∧ St.le { s with σ := dropL (σc.map fun p => π.getD p.1 0) s.σ } ⟨T, σ0, n0⟩) ∧
      (∀ x rest σ n, I (x :: rest) σ n → x.length = ps.length → lbs 0 x → vb n ⟨bindT ps x T, σ, n⟩ fun e s' => match e with
        | .normal => ∃ σ1 n1, I rest σ1 n1 ∧ b0 ≤ n1 ∧ St.le { s' with t := T } ⟨T, σ1, n1⟩
        | .ret => Q .ret ⟨T, s'.σ, s'.n⟩
        | .exit i => Q (.exit i) ⟨T, s'.σ, s'.n⟩
        | _ => False) ∧
      ∀ σ n, I [] σ n → Q .normal ⟨T, σ, n⟩
  | _ => False

def vc (P : Program) : Nat → MC → St → (Exit → St → Prop) → Prop
  | _, .skip, s, Q => Q .normal s
  | _, .reg ops, s, Q => vops P ops s (Q .normal)
  | _, .draw qs es, s, Q => vdops P s.n qs s fun s' => vops P es s' (Q .normal)
  | b0, .seq a b, s, Q => vc P b0 a s fun e s' => match e with
    | .normal => vc P b0 b s' Q
    | e => Q e s'
  | b0, .cond c a b, s, Q => CondO (s.ev c) (vc P b0 a s Q) (vc P b0 b s Q)
  | b0, .block id c, s, Q => vc P b0 c s fun e s' => match e with
    | .exit i => if i = id then Q .normal s' else Q (.exit i) s'
    | e => Q e s'
  | b0, .loop c, s, Q => LoopO (∃ I : Nat → St → Prop, (∃ m s', I m s' ∧ b0 ≤ s'.n ∧ s.le s') ∧ ∀ m s, I m s → vc P b0 c s fun e s' => match e with
    | .normal => ∃ m' s'', m' < m ∧ I m' s'' ∧ b0 ≤ s''.n ∧ s'.le s''
    | e => Q e s')
  | _, .exit id, s, Q => Q (.exit id) s
  | _, .ret, s, Q => Q .ret s
  | b0, .rng g ps a b, s, Q => RangeO P b0 ps (fun n s Q => vc P n a s fun e s' => match e with
    | .normal => vc P n b s' Q
    | _ => False) (s.ev g) s Q
end Go.QL
