/- The evaluator is right about the operations without an effect. -/
import Derived.Test.YtfhkfahgimibaaaTrans
namespace Go.QL

def BxOK (k : KW) (l : Nat) : Bx → Prop
  | .cs cs => (cs = [] ∧ k.ρ l = none) ∨ ∃ b vs T, k.ρ l = some b ∧ k.M b ∧ k.w.heap[b]? = some (.cells vs T (0, 0)) ∧ (∀ v ∈ vs.toList, v.oneCell' = true) ∧ cs.length ≤ vs.size ∧ DenL k cs (vs.toList.take cs.length)
  | .mp es => ∃ b ents clock, k.ρ l = some b ∧ k.M b ∧ k.w.heap[b]? = some (.map ents clock) ∧ (∀ e ∈ ents.toList, e.born < clock) ∧ (ents.toList.map (·.born)).Nodup ∧ ents.toList.map (·.key) = es.map (·.1) ∧ DenL k (es.map (·.2)) (ents.toList.map (·.val))
  | .yc _ _ => k.ρ l = none

/-- What a quiet operation leaves: a value, and perhaps one new block. -/
def QRes (k : KW) (l : Nat) (r : AV) (ν : List Bx) (v : Value) (w' : World) : Prop :=
  (ν = [] ∧ w' = k.w ∧ Den k r v) ∨
  (∃ cs vs T, ν = [.cs cs] ∧ w' = k.w.alloc (.cells vs T (0, 0)) ∧ (∀ v ∈ vs.toList, v.oneCell' = true) ∧ DenL k cs vs.toList ∧
    ∀ k' : KW, k'.w = w' → k'.ρ l = some k.w.heap.size → Den k' r v)

theorem strip_ok {k : KW} {y : Value} {K : AV → Prop} {c : Bool} (hc : c = true) : ∀ {x : AV}, Den k x y → strip c x K → ∃ z, Den k z y ∧ K z
  | .gd d u, hd, h => by
    simp only [strip] at h
    simp only [Den] at hd
    exact strip_ok hc (hd.1 (h.1 hc)) h.2
  | .vl _, hd, h => ⟨_, hd, by simpa [strip] using h⟩
  | .any, hd, h => ⟨_, hd, by simpa [strip] using h⟩
  | .ce, hd, h => ⟨_, hd, by simpa [strip] using h⟩
  | .sl _, hd, h => ⟨_, hd, by simpa [strip] using h⟩
  | .dp _, hd, h => ⟨_, hd, by simpa [strip] using h⟩
  | .ptr _ _, hd, h => ⟨_, hd, by simpa [strip] using h⟩
  | .agg _, hd, h => ⟨_, hd, by simpa [strip] using h⟩
  | .tup _, hd, h => ⟨_, hd, by simpa [strip] using h⟩
  | .fn _ _ _, hd, h => ⟨_, hd, by simpa [strip] using h⟩
  | .osl _ _ _ _ _, hd, h => ⟨_, hd, by simpa [strip] using h⟩
  | .mp _, hd, h => ⟨_, hd, by simpa [strip] using h⟩
  | .imp _, hd, h => ⟨_, hd, by simpa [strip] using h⟩

theorem strip_K {K : AV → Prop} {c : Bool} : ∀ {x : AV}, strip c x K → ∃ z, K z
  | .gd d u, h => by
    simp only [strip] at h
    exact strip_K h.2
  | .vl _, h => ⟨_, by simpa [strip] using h⟩
  | .any, h => ⟨_, by simpa [strip] using h⟩
  | .ce, h => ⟨_, by simpa [strip] using h⟩
  | .sl _, h => ⟨_, by simpa [strip] using h⟩
  | .dp _, h => ⟨_, by simpa [strip] using h⟩
  | .ptr _ _, h => ⟨_, by simpa [strip] using h⟩
  | .agg _, h => ⟨_, by simpa [strip] using h⟩
  | .tup _, h => ⟨_, by simpa [strip] using h⟩
  | .fn _ _ _, h => ⟨_, by simpa [strip] using h⟩
  | .osl _ _ _ _ _, h => ⟨_, by simpa [strip] using h⟩
  | .mp _, h => ⟨_, by simpa [strip] using h⟩
  | .imp _, h => ⟨_, by simpa [strip] using h⟩

theorem wrap_in {x : Int} (h : InR x) : IntKind.i64.wrap x = x := IntWalk.i64_in _ ⟨h.1, by have := h.2; omega⟩

theorem asSl_den {k : KW} {x : AV} {y : Value} {es : List (List AV)} (h : asSl x = some es) (hd : Den k x y) :
    ∃ a cap, y = .slice a es.length cap ∧ es.length ≤ cap ∧ cap ≤ maxLen ∧ (es = [] ∨ ∃ b off sz, a = some ⟨b, off, none⟩ ∧ b < k.w.heap.size ∧ ¬ k.M b ∧ DenEs k es b off sz) := by
  unfold asSl at h
  split at h
  · simp at h
    subst h
    simpa [Den] using hd
  · simp at h
    subst h
    simp only [Den] at hd
    exact ⟨none, 0, hd, by simp, by simp [maxLen], .inl rfl⟩
  · cases h

theorem binInt_ok {P : Program} {w : World} {op : BinOp} {kd : IntKind} {a b : Int} {c : Bool} {K : AV → Prop} {t : TypeId} (hc : c = true) (h : binInt c op kd a b K) :
    ∃ r, K r ∧ ∃ v, (binOp op t (.int kd a) (.int kd b)).run P w = .ok v w ∧ r = .vl v := by
  cases op <;> simp only [binInt] at h
  case add =>
    by_cases hk : kd = .i64
    · subst hk
      simp only [if_true] at h
      exact ⟨_, h.2, _, by simp [binOp, Op.intArith, wrap_in (h.1 hc)], rfl⟩
    · rw [if_neg hk] at h
      exact ⟨_, h, _, by simp [binOp, Op.intArith], rfl⟩
  case sub =>
    by_cases hk : kd = .i64
    · subst hk
      simp only [if_true] at h
      exact ⟨_, h.2, _, by simp [binOp, Op.intArith, wrap_in (h.1 hc)], rfl⟩
    · rw [if_neg hk] at h
      exact ⟨_, h, _, by simp [binOp, Op.intArith], rfl⟩
  case mul =>
    by_cases hk : kd = .i64
    · subst hk
      simp only [if_true] at h
      exact ⟨_, h.2, _, by simp [binOp, Op.intArith, wrap_in (h.1 hc)], rfl⟩
    · rw [if_neg hk] at h
      exact ⟨_, h, _, by simp [binOp, Op.intArith], rfl⟩
  case quo =>
    by_cases hk : kd = .i64
    · subst hk
      simp only [if_true] at h
      exact ⟨_, h.2, _, by simp [binOp, Op.intDiv, (h.1 hc).1, wrap_in (h.1 hc).2], rfl⟩
    · rw [if_neg hk] at h
      exact ⟨_, h.2, _, by simp [binOp, Op.intDiv, h.1 hc], rfl⟩
  case rem => exact ⟨_, h.2, _, by simp [binOp, Op.intDiv, h.1 hc], rfl⟩
  case and => exact ⟨_, h, _, by simp [binOp, Op.intBits, bitv], rfl⟩
  case or => exact ⟨_, h, _, by simp [binOp, Op.intBits, bitv], rfl⟩
  case xor => exact ⟨_, h, _, by simp [binOp, Op.intBits, bitv], rfl⟩
  case andNot => exact ⟨_, h, _, by simp [binOp, Op.intBits, bitv], rfl⟩
  case eql => exact ⟨_, h, _, by simp [binOp, Op.intCmp]; rfl, rfl⟩
  case neq => exact ⟨_, h, _, by simp [binOp, Op.intCmp, bne]; rfl, rfl⟩
  case lss => exact ⟨_, h, _, by simp [binOp, Op.intCmp], rfl⟩
  case leq => exact ⟨_, h, _, by simp [binOp, Op.intCmp], rfl⟩
  case gtr => exact ⟨_, h, _, by simp [binOp, Op.intCmp], rfl⟩
  case geq => exact ⟨_, h, _, by simp [binOp, Op.intCmp], rfl⟩

theorem eqGuard_ok {P : Program} {w : World} {op : BinOp} {t : TypeId} {x y : Operand} {a b : Value} (ha : ∀ z, a ≠ .agg z) (hn : a ≠ .nilIface) :
    (eqGuard op t x y a b).run P w = .ok () w := by
  unfold eqGuard
  cases op <;> simp <;> (cases a <;> cases b <;> simp_all)

theorem equalIn_bool {P : Program} {w : World} {t : TypeId} (n : Nat) (a b : Bool) (hu : P.underlying t = some .bool) :
    (Op.equalIn (n + 1) t (.bool a) (.bool b)).run P w = .ok (a == b) w := by
  simp [Op.equalIn, run_underlying hu]

theorem binV_ok {P : Program} {w : World} {op : BinOp} {x y : AV} {a b : Value} {c : Bool} {K : AV → Prop} {t : TypeId} {X Y : Operand} {k : KW}
    (hc : c = true) (hx : Den k x a) (hy : Den k y b) (h : binV c op x y K) :
    ∃ r, K r ∧ ∃ v, (eqGuard op t X Y a b).run P w = .ok () w ∧ (binOp op t a b).run P w = .ok v w ∧ r = .vl v := by
  have key : ∀ {u v : Value}, x = .vl u → y = .vl v → (∀ z, u ≠ .agg z) → u ≠ .nilIface → (∃ r, K r ∧ ∃ q, (binOp op t u v).run P w = .ok q w ∧ r = .vl q) →
      ∃ r, K r ∧ ∃ v, (eqGuard op t X Y a b).run P w = .ok () w ∧ (binOp op t a b).run P w = .ok v w ∧ r = .vl v := by
    intro u v hxu hyv h1 h2 ⟨r, hK, q, hq, hr⟩
    subst hxu hyv
    simp only [Den] at hx hy
    subst hx hy
    exact ⟨r, hK, q, eqGuard_ok h1 h2, hq, hr⟩
  unfold binV at h
  split at h
  · exact key rfl rfl (by simp) (by simp) ⟨_, h.2, _, by simp [binOp, Op.shift, Int.not_lt.2 (h.1 hc)], rfl⟩
  · exact key rfl rfl (by simp) (by simp) ⟨_, h.2, _, by simp [binOp, Op.shift, Int.not_lt.2 (h.1 hc)], rfl⟩
  · obtain ⟨rfl, h⟩ := h
    exact key rfl rfl (by simp) (by simp) (binInt_ok hc h)
  · exact key rfl rfl (by simp) (by simp) ⟨_, h, _, by simp [binOp, Op.stringOp], rfl⟩
  · exact key rfl rfl (by simp) (by simp) ⟨_, h, _, by simp [binOp, Op.stringOp], rfl⟩
  · exact h.elim

/-- What the evaluator says of one operation. -/
def QOK (P : Program) (k : KW) (a : Act) (o : Oper) (l : Nat) (K : AV → List Bx → Prop) : Prop :=
  ∃ r ν, K r ν ∧ ∃ v w', (execOp a.eval o).run P k.w = .ok (.value v) w' ∧ QRes k l r ν v w'

section
variable {P : Program} {k : KW} {a : Act} {o : Oper} {l : Nat} {K : AV → List Bx → Prop} {g : Operand → AV} {σ : Nat → Option Bx} {c : Bool}

theorem QOK.plain {v : Value} {r : AV} (hK : K r []) (hr : (execOp a.eval o).run P k.w = .ok (.value v) k.w) (hd : Den k r v) : QOK P k a o l K :=
  ⟨r, [], hK, v, k.w, hr, .inl ⟨rfl, rfl, hd⟩⟩

theorem q_mv {x : Operand} (ho : o.op = .move x ∨ o.op = .assign x) (hg : Den k (g x) (a.eval x)) (h : qv c (.mv x) g σ l K) : QOK P k a o l K := by
  simp only [qv] at h
  exact .plain h (by rcases ho with ho | ho <;> simp [execOp, ho]) hg

theorem q_pick {x y z : Operand} (ho : o.op = .pick x y z) (hg : ∀ x, Den k (g x) (a.eval x)) (hc : c = true) (h : qv c (.pick x y z) g σ l K) : QOK P k a o l K := by
  simp only [qv] at h
  obtain ⟨u, hu, h⟩ := strip_ok hc (hg x) h
  split at h
  · rename_i p
    simp only [Den] at hu
    have hr : (execOp a.eval o).run P k.w = .ok (.value (if p then a.eval y else a.eval z)) k.w := by
      simp [execOp, ho, hu, asBool]
    cases p with
    | true =>
      obtain ⟨A, hA, h⟩ := strip_ok (by simp [hc]) (hg y) h
      obtain ⟨B, h⟩ := strip_K h
      split at h
      · simp only [Den] at hA
        exact .plain h hr (by simp [Den, hA])
      · exact h.elim
    | false =>
      obtain ⟨A, h⟩ := strip_K h
      obtain ⟨B, hB, h⟩ := strip_ok (by simp [hc]) (hg z) h
      split at h
      · simp only [Den] at hB
        exact .plain h hr (by simp [Den, hB])
      · exact h.elim
  · exact h.elim

theorem zeroOf_spec {t : TypeId} {z : List Value} (h : zeroOf P t = some z) (w : World) :
    ∃ zv, (zeroValue t).run P w = .ok zv w ∧ zv.cells.toList = z ∧ (∀ v ∈ z, v.oneCell' = true) := by
  unfold zeroOf at h
  split at h
  · rename_i i hi
    split at h
    · rename_i zv hz
      split at h
      · rename_i hall
        simp only [Option.some.injEq] at h
        subst h
        exact ⟨zv, by simp [zeroValue, typeInfo, hi, hz], rfl, fun v hv => by
          rw [Array.all_eq_true_iff_forall_mem] at hall
          exact hall v (by simpa using hv)⟩
      · cases h
    · cases h
  · cases h

theorem szOf_spec {t : TypeId} {n : Nat} (h : szOf P t = some n) (w : World) : (sizeOf t).run P w = .ok n w := by
  unfold szOf at h
  cases hi : P.info? t with
  | none => simp [hi] at h
  | some i =>
    simp [hi] at h
    simp [sizeOf, typeInfo, hi, h]

theorem DenL.vls {k : KW} : ∀ (z : List Value), DenL k (z.map .vl) z
  | [] => by simp [DenL]
  | x :: z => by
    simp only [List.map_cons, DenL]
    exact ⟨by simp [Den], DenL.vls z⟩

theorem q_alloc {t : TypeId} {z : List Value} (ho : o.op = .alloc t) (hz : zeroOf P t = some z) (h : qv c (.alloc z) g σ l K) : QOK P k a o l K := by
  simp only [qv] at h
  obtain ⟨zv, h1, h2, h3⟩ := zeroOf_spec hz k.w
  refine ⟨_, _, h, .pointer (some ⟨k.w.heap.size, 0, none⟩), k.w.alloc (.cells zv.cells t (0, 0)), ?_, .inr ⟨_, zv.cells, t, rfl, rfl, by rw [h2]; exact h3, by rw [h2]; exact DenL.vls z, ?_⟩⟩
  · simp [execOp, ho, Instr.alloc, h1, newVar, newRow]
  · intro k' hk hl
    simp [Den, hl]

/-- The cells of a value, as described. -/
theorem cells_den {x : AV} {y : Value} (h : Den k x y) (hx : x.cells.all AV.isCell = true) : DenL k x.cells y.cells.toList ∧ ∀ v ∈ y.cells.toList, v.oneCell' = true := by
  have one : ∀ {x : AV} {y : Value}, Den k x y → x.isCell = true → y.oneCell' = true := by
    intro x y h hx
    cases x <;> simp [AV.isCell] at hx <;> simp only [Den] at h
    case vl => subst h; exact hx
    case ce => exact h
    case sl => obtain ⟨_, _, rfl, _⟩ := h; rfl
    case dp => obtain ⟨_, _, rfl, _⟩ := h; rfl
    case ptr => obtain ⟨_, _, rfl⟩ := h; rfl
    case fn => obtain ⟨_, _, rfl, _⟩ := h; rfl
    case osl => obtain ⟨_, _, rfl, _⟩ := h; rfl
    case mp => obtain ⟨_, _, rfl⟩ := h; rfl
    case imp => obtain ⟨_, _, _, rfl, _⟩ := h; rfl
  have all : ∀ {xs : List AV} {ys : List Value}, DenL k xs ys → xs.all AV.isCell = true → ∀ v ∈ ys, v.oneCell' = true := by
    intro xs
    induction xs with
    | nil => intro ys h _; cases ys <;> simp [DenL] at h ⊢
    | cons x xs ih =>
      intro ys h hx
      cases ys with
      | nil => simp
      | cons y ys =>
        simp only [DenL] at h
        simp only [List.all_cons, Bool.and_eq_true] at hx
        intro v hv
        rcases List.mem_cons.1 hv with rfl | hv
        · exact one h.1 hx.1
        · exact ih h.2 hx.2 v hv
  have single : ∀ {x : AV} {y : Value}, Den k x y → x.isCell = true → DenL k [x] y.cells.toList ∧ ∀ v ∈ y.cells.toList, v.oneCell' = true := by
    intro x y h hx
    have h1 := one h hx
    have : y.cells = #[y] := by cases y <;> simp_all [Value.cells, Value.oneCell']
    rw [this]
    exact ⟨by simp [DenL, h], by simpa using h1⟩
  unfold AV.cells at hx ⊢
  split at hx
  · simp only [Den] at h
    obtain ⟨vs, rfl, h⟩ := h
    exact ⟨h, all h hx⟩
  · simp only [Den] at h
    subst h
    exact ⟨DenL.vls _, all (DenL.vls _) hx⟩
  · exact single h (by simpa using hx)

theorem q_box {t : TypeId} {n : Nat} {x : Operand} (ho : o.op = .box t x) (hg : ∀ x, Den k (g x) (a.eval x)) (hc : c = true) (h : qv c (.box n x) g σ l K) : QOK P k a o l K := by
  simp only [qv] at h
  obtain ⟨u, hu, h⟩ := strip_ok hc (hg x) h
  obtain ⟨h1, h2⟩ := cells_den hu (h.1 hc).2
  refine ⟨_, _, h.2, .pointer (some ⟨k.w.heap.size, 0, none⟩), k.w.alloc (.cells (a.eval x).cells t (0, 0)), ?_, .inr ⟨_, (a.eval x).cells, t, rfl, rfl, h2, h1, ?_⟩⟩
  · simp [execOp, ho, Instr.box, newVar, newRow]
  · intro k' hk hl
    simp [Den, hl]

theorem headD_den {cs : List AV} {vs : List Value} (h : DenL k cs vs) (hn : 0 < cs.length) : ∃ v, vs[0]? = some v ∧ Den k (cs.headD .any) v := by
  cases cs with
  | nil => simp at hn
  | cons x cs =>
    cases vs with
    | nil => simp [DenL] at h
    | cons v vs =>
      simp only [DenL] at h
      exact ⟨v, rfl, by simpa using h.1⟩

theorem load_run {t : TypeId} {d : TypeDesc} {n : Nat} {b off : Nat} {vs : List Value} (w : World) (hu : P.underlying t = some d) (hn : szOf P t = some n)
    (hr : w.rangeAt b off vs) :
    (isRowTy d = true → vs.length = n → (loadVar t ⟨b, off, none⟩).run P w = .ok (.agg vs.toArray) w) ∧
    (isRowTy d = false → ∀ v, vs[0]? = some v → (loadVar t ⟨b, off, none⟩).run P w = .ok v w) := by
  constructor
  · intro hd hl
    refine run_loadVar_mid w b off t vs d hr hu ?_ ?_
    · cases d <;> simp_all [isRowTy, TypeDesc.isRow]
    · unfold szOf at hn
      rw [hn, hl]
  · intro hd v hv
    have h0 := hr 0 v hv
    have hagg : (isAgg t).run P w = .ok false w := by
      unfold isAgg
      rw [Sem.run_bind, run_underlying hu w]
      cases d <;> simp_all [isRowTy]
    simp only [Nat.add_zero] at h0
    simp [loadVar, hagg, h0]

theorem q_load {t : TypeId} {d : TypeDesc} {n : Nat} {x : Operand} (ho : o.op = .load t x) (hu : P.underlying t = some d) (hn : szOf P t = some n)
    (hg : ∀ x, Den k (g x) (a.eval x)) (hσ : ∀ l x b, k.ρ l = some b → σ l = some x → BxOK k l x) (hc : c = true)
    (h : qv c (.load (isRowTy d) (if isRowTy d then n else 1) x) g σ l K) : QOK P k a o l K := by
  simp only [qv] at h
  obtain ⟨u, hu', h⟩ := strip_ok hc (hg x) h
  have fin : ∀ {b off : Nat} {cs : List AV} {vs : List Value}, a.eval x = .pointer (some ⟨b, off, none⟩) → DenL k cs vs → k.w.rangeAt b off vs →
      (if isRowTy d then n else 1) ≤ cs.length → K (if isRowTy d then .agg (cs.take (if isRowTy d then n else 1)) else cs.headD .any) [] → QOK P k a o l K := by
    intro b off cs vs hx hd hr hl hK
    cases hrow : isRowTy d with
    | true =>
      rw [hrow] at hK hl
      simp only [if_true] at hK hl
      have hlen := hd.length
      have hr' : k.w.rangeAt b off (vs.take n) := fun j v hj => hr j v (by
        rw [List.getElem?_take] at hj
        split at hj
        · exact hj
        · cases hj)
      have := (load_run (P := P) k.w hu hn hr').1 hrow (by simp; omega)
      exact .plain hK (v := .agg (vs.take n).toArray) (by simp [execOp, ho, hx, Instr.loadAt, Instr.sureAddr, this]) (by
        simp only [Den]
        exact ⟨_, rfl, by simpa using DenL.take n hd⟩)
    | false =>
      rw [hrow] at hK hl
      simp at hK hl
      obtain ⟨v, hv, hd'⟩ := headD_den hd (by omega)
      have := (load_run (P := P) k.w hu hn hr).2 hrow v hv
      exact .plain hK (v := v) (by simp [execOp, ho, hx, Instr.loadAt, Instr.sureAddr, this]) (by simpa using hd')
  split at h
  · simp only [Den] at hu'
    obtain ⟨b, off, hx, _, _, hcs⟩ := hu'
    obtain ⟨vs, hd, _, hr⟩ := DenCs.vals hcs
    exact fin hx hd hr (h.1 hc) h.2
  · rename_i l' off
    split at h
    · rename_i cs hl'
      simp only [Den] at hu'
      obtain ⟨b, hb, hx⟩ := hu'
      have hbx := hσ _ _ _ hb hl'
      simp only [BxOK] at hbx
      rcases hbx with ⟨_, h0⟩ | ⟨b', vs, T, hb', _, hheap, _, hlen, hd⟩
      · rw [hb] at h0
        cases h0
      · rw [hb] at hb'
        simp only [Option.some.injEq] at hb'
        subst hb'
        have hd2 := DenL.drop off hd
        refine fin (cs := cs.drop off) hx hd2 ?_ (by have := h.1 hc; simp; omega) (by simpa using h.2)
        intro j v hj
        rw [List.getElem?_drop, List.getElem?_take] at hj
        split at hj
        · simp only [World.cell?, hheap]
          simpa using hj
        · cases hj
    · exact h.elim
  · exact h.elim

theorem q_bin {op : BinOp} {t u : TypeId} {x y : Operand} (ho : o.op = .binOp op t x y u) (hg : ∀ x, Den k (g x) (a.eval x)) (hc : c = true) (h : qv c (.bin op x y) g σ l K) : QOK P k a o l K := by
  simp only [qv] at h
  obtain ⟨X, hX, h⟩ := strip_ok hc (hg x) h
  obtain ⟨Y, hY, h⟩ := strip_ok hc (hg y) h
  obtain ⟨r, hK, v, hr1, hr2, rfl⟩ := binV_ok (P := P) (w := k.w) (t := t) (X := x) (Y := y) hc hX hY h
  exact .plain hK (v := v) (by simp [execOp, ho, hr1, hr2]) (by simp [Den])

theorem q_beq {neg : Bool} {t u : TypeId} {x y : Operand} (ho : o.op = .binOp (if neg then .neq else .eql) t x y u) (hu : P.underlying t = some .bool)
    (hg : ∀ x, Den k (g x) (a.eval x)) (hc : c = true) (h : qv c (.beq neg x y) g σ l K) : QOK P k a o l K := by
  simp only [qv] at h
  obtain ⟨X, hX, h⟩ := strip_ok hc (hg x) h
  obtain ⟨Y, hY, h⟩ := strip_ok hc (hg y) h
  split at h
  · rename_i p q _
    simp only [Den] at hX hY
    refine .plain h (v := .bool (if neg then !(p == q) else p == q)) ?_ (by simp [Den])
    have he := eqGuard_ok (P := P) (w := k.w) (op := if neg then .neq else .eql) (t := t) (x := x) (y := y) (a := .bool p) (b := .bool q) (by simp) (by simp)
    have hq := equalIn_bool (P := P) (w := k.w) (t := t) 9999 p q hu
    cases neg <;> simp at he ho <;> simp [execOp, ho, hX, hY, he, binOp, Op.equal, Op.maxDepth, hq]
  · exact h.elim

theorem q_un {op : UnOp} {t : TypeId} {x : Operand} (ho : o.op = .unOp op t x) (hg : ∀ x, Den k (g x) (a.eval x)) (hc : c = true) (h : qv c (.un op x) g σ l K) : QOK P k a o l K := by
  simp only [qv] at h
  obtain ⟨X, hX, h⟩ := strip_ok hc (hg x) h
  split at h
  · simp only [Den] at hX
    exact .plain h (by simp [execOp, ho, hX, Op.unary]; rfl) (by simp [Den])
  · rename_i kd n _
    simp only [Den] at hX
    by_cases hk : kd = .i64
    · subst hk
      simp only [if_true] at h
      have := wrap_in (h.1 hc)
      exact .plain h.2 (v := .int .i64 (-n)) (by simp [execOp, ho, hX, Op.unary, Op.intArith, this]) (by simp [Den])
    · rw [if_neg hk] at h
      exact .plain h (v := .int kd (kd.wrap (0 - n))) (by simp [execOp, ho, hX, Op.unary, Op.intArith]) (by simp [Den])
  · exact h.elim

theorem q_conv {s d : TypeId} {q q' : IntKind} {x : Operand} (ho : o.op = .convert s d x) (hs : P.underlying s = some (.int q')) (hd : P.underlying d = some (.int q))
    (hg : ∀ x, Den k (g x) (a.eval x)) (hc : c = true) (h : qv c (.conv q x) g σ l K) : QOK P k a o l K := by
  simp only [qv] at h
  obtain ⟨X, hX, h⟩ := strip_ok hc (hg x) h
  split at h
  · simp only [Den] at hX
    exact .plain h (by simp [execOp, ho, hX, convert, run_underlying hs, run_underlying hd, Conv.intToInt]; rfl) (by simp [Den])
  · exact h.elim

theorem q_faddr {s : TypeId} {x : Operand} {f : Nat} {fs : Array Field} {fl : Field} {n : Nat} (ho : o.op = .fieldAddr s x f) (hs : P.underlying s = some (.struct fs)) (hf : fs[f]? = some fl)
    (hn : szOf P fl.type = some n) (h0 : n ≠ 0) (hg : ∀ x, Den k (g x) (a.eval x)) (hc : c = true) (h : qv c (.faddr fl.offset x) g σ l K) : QOK P k a o l K := by
  simp only [qv] at h
  obtain ⟨X, hX, h⟩ := strip_ok hc (hg x) h
  have run : ∀ b off, a.eval x = .pointer (some ⟨b, off, none⟩) → (execOp a.eval o).run P k.w = .ok (.value (.pointer (some ⟨b, off + fl.offset, none⟩))) k.w := by
    intro b off hx
    simp [execOp, ho, hx, Instr.fieldAt, run_underlying hs, hf, Instr.sureAddr, fieldPlace, szOf_spec hn, h0, Addr.add_mid]
  split at h
  · simp only [Den] at hX
    obtain ⟨b, off, hx, h1, h2, h3⟩ := hX
    exact .plain h.2 (run b off hx) (by
      simp only [Den]
      exact ⟨b, _, rfl, h1, h2, DenCs.drop _ (h.1 hc) h3⟩)
  · simp only [Den] at hX
    obtain ⟨b, hb, hx⟩ := hX
    exact .plain h (run b _ hx) (by
      simp only [Den]
      exact ⟨b, hb, rfl⟩)
  · exact h.elim

theorem q_iaddr {t e : TypeId} {sz : Nat} {x i : Operand} (ho : o.op = .indexAddr t x i) (ht : P.underlying t = some (.slice e)) (hn : szOf P e = some sz)
    (hg : ∀ x, Den k (g x) (a.eval x)) (hc : c = true) (h : qv c (.iaddr sz x i) g σ l K) : QOK P k a o l K := by
  simp only [qv] at h
  obtain ⟨X, hX, h⟩ := strip_ok hc (hg x) h
  obtain ⟨I, hI, h⟩ := strip_ok hc (hg i) h
  split at h
  · rename_i kd n
    simp only [Den] at hI
    have run : ∀ b off len cap, a.eval x = .slice (some ⟨b, off, none⟩) len cap → 0 ≤ n → n < len → (execOp a.eval o).run P k.w = .ok (.value (.pointer (some ⟨b, off + n.toNat * sz, none⟩))) k.w := by
      intro b off len cap hx h0 h1
      simp [execOp, ho, hx, hI, Instr.indexAt, run_underlying ht, asIntOf, h0, h1, szOf_spec hn, Addr.add_mid]
    split at h
    · rename_i sz' l' off len cap _
      simp only [Den] at hX
      obtain ⟨ad, cap', hx, h1, h2, h3, h4⟩ := hX
      obtain ⟨rfl, h5, h6⟩ := h.1 hc
      rcases h4 with h4 | ⟨b, vs, T, h7, h8, h9, h10⟩
      · omega
      · subst h8
        exact .plain h.2 (run b off len cap' hx h5 h6) (by
          simp only [Den]
          exact ⟨b, h7, rfl⟩)
    · split at h
      · rename_i es hes
        obtain ⟨ad, cap, hx, h1, h2, h3⟩ := asSl_den hes hX
        obtain ⟨h4, h5, h6⟩ := h.1 hc
        rcases h3 with h3 | ⟨b, off, sz', rfl, hb, hm, hde⟩
        · subst h3
          simp at h5
          omega
        · have hi : n.toNat < es.length := by omega
          have hget : es[n.toNat]? = some (es.getD n.toNat []) := by simp [hi]
          obtain ⟨h7, h8⟩ := DenEs.get hde hget
          have : sz' = sz := by omega
          subst this
          exact .plain h.2 (run b off _ cap hx h4 h5) (by
            simp only [Den]
            exact ⟨b, _, rfl, hb, hm, h8⟩)
      · exact h.elim
  · exact h.elim

theorem q_aaddr {t e : TypeId} {len sz : Nat} {x i : Operand} (ho : o.op = .indexAddr t x i) (ht : P.underlying t = some (.array len e)) (hn : szOf P e = some sz)
    (hg : ∀ x, Den k (g x) (a.eval x)) (hc : c = true) (h : qv c (.aaddr len sz x i) g σ l K) : QOK P k a o l K := by
  simp only [qv] at h
  obtain ⟨X, hX, h⟩ := strip_ok hc (hg x) h
  obtain ⟨I, hI, h⟩ := strip_ok hc (hg i) h
  split at h
  · rename_i kd n
    simp only [Den] at hI
    have run : ∀ b off, a.eval x = .pointer (some ⟨b, off, none⟩) → 0 ≤ n → n < len → (execOp a.eval o).run P k.w = .ok (.value (.pointer (some ⟨b, off + n.toNat * sz, none⟩))) k.w := by
      intro b off hx h0 h1
      simp [execOp, ho, hx, hI, Instr.indexAt, run_underlying ht, asIntOf, Instr.sureAddr, h0, h1, szOf_spec hn, Addr.add_mid]
    split at h
    · simp only [Den] at hX
      obtain ⟨b, hb, hx⟩ := hX
      obtain ⟨h0, h1⟩ := h.1 hc
      exact .plain h.2 (run b _ hx h0 h1) (by
        simp only [Den]
        exact ⟨b, hb, rfl⟩)
    · simp only [Den] at hX
      obtain ⟨b, off, hx, hb, hm, hcs⟩ := hX
      obtain ⟨h0, h1, h2⟩ := h.1 hc
      refine .plain h.2 (run b off hx h0 h1) ?_
      simp only [Den]
      refine ⟨b, _, rfl, hb, hm, DenCs.drop _ ?_ hcs⟩
      have : n.toNat * sz ≤ len * sz := Nat.mul_le_mul_right _ (by omega)
      omega
    · exact h.elim
  · exact h.elim

theorem part_run {e : TypeId} {d : TypeDesc} {n off : Nat} {vs : Array Value} (w : World) (hu : P.underlying e = some d) (hn : szOf P e = some n) :
    (isRowTy d = true → (part e vs off).run P w = .ok (.agg (vs.extract off (off + n))) w) ∧
    (isRowTy d = false → ∀ v, vs[off]? = some v → (part e vs off).run P w = .ok v w) := by
  constructor
  · intro hd
    have hagg : (isAgg e).run P w = .ok true w := by
      unfold isAgg
      rw [Sem.run_bind, run_underlying hu w]
      cases d <;> simp_all [isRowTy]
    simp [part, hagg, szOf_spec hn]
  · intro hd v hv
    have hagg : (isAgg e).run P w = .ok false w := by
      unfold isAgg
      rw [Sem.run_bind, run_underlying hu w]
      cases d <;> simp_all [isRowTy]
    simp [part, hagg, hv]

theorem q_idx {t e : TypeId} {d : TypeDesc} {len sz : Nat} {x i : Operand} (ho : o.op = .index t x i) (ht : P.underlying t = some (.array len e)) (hn : szOf P e = some sz) (hu : P.underlying e = some d)
    (hg : ∀ x, Den k (g x) (a.eval x)) (hc : c = true) (h : qv c (.idx len sz (isRowTy d) x i) g σ l K) : QOK P k a o l K := by
  simp only [qv] at h
  obtain ⟨X, hX, h⟩ := strip_ok hc (hg x) h
  obtain ⟨I, hI, h⟩ := strip_ok hc (hg i) h
  split at h
  · rename_i kd n
    simp only [Den] at hI
    split at h
    · rename_i cs _
      simp only [Den] at hX
      obtain ⟨vs, hx, hd⟩ := hX
      obtain ⟨h0, h1, h2, h3⟩ := h.1 hc
      have hK := h.2
      have hlen := hd.length
      have hle : n.toNat * sz + sz ≤ len * sz := by
        have : (n.toNat + 1) * sz ≤ len * sz := Nat.mul_le_mul_right _ (by omega)
        rwa [Nat.add_mul, Nat.one_mul] at this
      cases hrow : isRowTy d with
      | true =>
        rw [hrow] at hK
        simp only [if_true] at hK
        have hp := (part_run (vs := vs) (off := n.toNat * sz) k.w hu hn).1 hrow
        refine .plain hK (v := .agg (vs.extract (n.toNat * sz) (n.toNat * sz + sz))) (by simp [execOp, ho, hx, hI, Instr.index, run_underlying ht, asIntOf, h0, h1, szOf_spec hn, hp]) ?_
        simp only [Den]
        refine ⟨_, rfl, ?_⟩
        have := DenL.take sz (DenL.drop (n.toNat * sz) hd)
        rw [Array.toList_extract]
        simpa [List.extract_eq_take_drop] using this
      | false =>
        rw [hrow] at hK
        simp at hK
        obtain ⟨v, hv, hdv⟩ := headD_den (DenL.drop (n.toNat * sz) hd) (by simp; omega)
        have hv' : vs[n.toNat * sz]? = some v := by simpa using hv
        have hp := (part_run (vs := vs) (off := n.toNat * sz) k.w hu hn).2 hrow v hv'
        exact .plain hK (v := v) (by simp [execOp, ho, hx, hI, Instr.index, run_underlying ht, asIntOf, h0, h1, szOf_spec hn, hp]) (by simpa using hdv)
    · exact h.elim
  · exact h.elim

theorem q_len {x : Operand} {t e : TypeId} (ho : o.op = .call { callee := .builtin .len, args := #[x], argTypes := #[t] }) (ht : P.underlying t = some (.slice e))
    (hg : ∀ x, Den k (g x) (a.eval x)) (hc : c = true) (h : qv c (.len x) g σ l K) : QOK P k a o l K := by
  simp only [qv] at h
  obtain ⟨X, hX, h⟩ := strip_ok hc (hg x) h
  have sl : ∀ ad n cap, a.eval x = .slice ad n cap → (execOp a.eval o).run P k.w = .ok (.value (.int .i64 n)) k.w := by
    intro ad n cap hx
    simp [execOp, ho, resolve, invoke, builtin, hx, Builtin.len_, goInt, run_underlying ht]
  split at h
  · simp only [Den] at hX
    obtain ⟨ad, cap, hx, _⟩ := hX
    exact .plain h (sl _ _ _ hx) (by simp [Den])
  · split at h
    · rename_i es hes
      obtain ⟨ad, cap, hx, _⟩ := asSl_den hes hX
      exact .plain h (sl _ _ _ hx) (by simp [Den])
    · exact h.elim

theorem q_slen {x : Operand} {t : TypeId} (ho : o.op = .call { callee := .builtin .len, args := #[x], argTypes := #[t] }) (ht : P.underlying t = some .string)
    (hg : ∀ x, Den k (g x) (a.eval x)) (hc : c = true) (h : qv c (.slen x) g σ l K) : QOK P k a o l K := by
  simp only [qv] at h
  obtain ⟨X, hX, h⟩ := strip_ok hc (hg x) h
  split at h
  · rename_i s
    simp only [Den] at hX
    exact .plain h (v := .int .i64 s.size) (by simp [execOp, ho, resolve, invoke, builtin, hX, Builtin.len_, goInt, run_underlying ht]) (by simp [Den])
  · exact h.elim

theorem q_ext {i : Nat} {x : Operand} (ho : o.op = .extract x i) (hg : ∀ x, Den k (g x) (a.eval x)) (hc : c = true) (h : qv c (.ext i x) g σ l K) : QOK P k a o l K := by
  simp only [qv] at h
  obtain ⟨X, hX, h⟩ := strip_ok hc (hg x) h
  split at h
  · rename_i xs
    simp only [Den] at hX
    obtain ⟨vs, hx, hd⟩ := hX
    have hi := h.1 hc
    obtain ⟨y, hy, hdy⟩ := DenL.get hd (i := i) (x := xs[i]) (by simp [hi])
    have hy' : vs[i]? = some y := by simpa using hy
    exact .plain h.2 (v := y) (by simp [execOp, ho, hx, Instr.extract, hy']) (by simpa [hi] using hdy)
  · exact h.elim

theorem DenL.map {k : KW} {g : Operand → AV} {e : Operand → Value} (hg : ∀ x, Den k (g x) (e x)) : ∀ (l : List Operand), DenL k (l.map g) (l.map e)
  | [] => by simp [DenL]
  | x :: l => by
    simp only [List.map_cons, DenL]
    exact ⟨hg x, DenL.map hg l⟩

theorem q_mkf {f : Fn} {fs cs : Array Operand} (ho : o.op = .makeFunc f fs cs) (hg : ∀ x, Den k (g x) (a.eval x)) (h : qv c (.mkf f fs.toList cs.toList) g σ l K) : QOK P k a o l K := by
  simp only [qv] at h
  refine .plain h (v := .func f (fs.map a.eval) (cs.map a.eval)) (by simp [execOp, ho, Instr.makeFunc]) ?_
  simp only [Den]
  exact ⟨_, _, rfl, by simpa using DenL.map hg fs.toList, by simpa using DenL.map hg cs.toList⟩

theorem q_mm {mx : Bool} {x y : Operand} {t : Array TypeId} (ho : o.op = .call { callee := .builtin (if mx then .max else .min), args := #[x, y], argTypes := t })
    (hg : ∀ x, Den k (g x) (a.eval x)) (hc : c = true) (h : qv c (.mm mx x y) g σ l K) : QOK P k a o l K := by
  simp only [qv] at h
  obtain ⟨X, hX, h⟩ := strip_ok hc (hg x) h
  obtain ⟨Y, hY, h⟩ := strip_ok hc (hg y) h
  split at h
  · rename_i k1 p k2 q _
    simp only [Den] at hX hY
    obtain ⟨rfl, h⟩ := h
    refine .plain h (v := .int k1 (if mx then max p q else min p q)) ?_ (by simp [Den])
    cases mx <;> simp at ho <;> simp [execOp, ho, resolve, invoke, builtin, hX, hY, Builtin.max_, Builtin.min_, Builtin.max2, Builtin.min2]
    · split <;> omega
    · split <;> omega
  · exact h.elim
end
end Go.QL
