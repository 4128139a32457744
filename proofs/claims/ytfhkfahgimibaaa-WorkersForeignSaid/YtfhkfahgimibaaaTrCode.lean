/- The reading of code, as a program. -/
import Derived.Test.YtfhkfahgimibaaaFun
namespace Go.QL

def trGO (P : Program) (N : Nat) (ops : Array Oper) (o : Oper) : Option GO :=
  match trOper P ops o with
  | some g => match o.dst with
    | some d => if d < N then some g else none
    | none => some g
  | none => none

def trGOs (P : Program) (N : Nat) (ops : Array Oper) : List Oper → Option (List GO)
  | [] => some []
  | o :: os => match trGO P N ops o with
    | some g => match trGOs P N ops os with
      | some gs => some (g :: gs)
      | none => none
    | none => none

/-- Whether an operation may run in any order. -/
def MO.anyOrd : MO → Bool
  | .store _ _ _ | .append _ _ _ _ | .mkm | .mset _ _ _ _ | .other => false
  | _ => true

/-- How many operations may run in any order: as few as will do. -/
def nqGo (ops : Array Oper) (gs : List GO) : Nat → Nat → Option Nat
  | 0, _ => none
  | d + 1, n => if drawCk ops gs n then some n else if (match gs[n]? with | some g => g.op.anyOrd | none => false) then nqGo ops gs d (n + 1) else none

def trCode (P : Program) (N : Nat) : Code → Option MC
  | .skip => some .skip
  | .region _ ops draw => match trGOs P N ops ops.toList with
    | some gs => bif draw then
        match nqGo ops gs (gs.length + 1) 0 with
        | some n => some (.draw (gs.take n) (gs.drop n))
        | none => none
      else some (.reg gs)
    | none => none
  | .seq a b => match trCode P N a with
    | some x => match trCode P N b with
      | some y => some (.seq x y)
      | none => none
    | none => none
  | .cond c a b => match trCode P N a with
    | some x => match trCode P N b with
      | some y => some (.cond c x y)
      | none => none
    | none => none
  | .block id a => match trCode P N a with
    | some x => some (.block id x)
    | none => none
  | .loop a => match trCode P N a with
    | some x => some (.loop x)
    | none => none
  | .exit id => some (.exit id)
  | .ret => some .ret
  | .rangeFunc g ps a b => match trCode P N a with
    | some x => match trCode P N b with
      | some y => if ps.toList.all (fun p => decide (p < N)) && x.flat && y.flat then some (.rng g ps.toList x y) else none
      | none => none
    | none => none
  | _ => none

theorem nqGo_ok {ops : Array Oper} {gs : List GO} : ∀ {d n m : Nat}, nqGo ops gs d n = some m → drawCk ops gs m = true
  | 0, n, m, h => by simp [nqGo] at h
  | d + 1, n, m, h => by
    unfold nqGo at h
    split at h
    · rename_i hc
      cases h
      exact hc
    · split at h
      · split at h
        · exact nqGo_ok h
        · cases h
      · simp at h

theorem trGOs_ok {P : Program} {N : Nat} {ops : Array Oper} : ∀ {os : List Oper} {gs : List GO}, trGOs P N ops os = some gs → F2 (GOok P N ops) os gs
  | [], gs, h => by
    simp [trGOs] at h
    subst h
    exact .nil
  | o :: os, gs, h => by
    simp only [trGOs] at h
    split at h
    · rename_i g hg
      split at h
      · rename_i gs' hgs
        simp only [Option.some.injEq] at h
        subst h
        refine .cons ?_ (trGOs_ok hgs)
        unfold trGO at hg
        split at hg
        · rename_i g' hg'
          split at hg
          · rename_i d hd
            split at hg
            · rename_i hlt
              simp only [Option.some.injEq] at hg
              subst hg
              exact ⟨hg', fun e he => by rw [hd] at he; cases he; exact hlt⟩
            · cases hg
          · rename_i hd
            simp only [Option.some.injEq] at hg
            subst hg
            exact ⟨hg', fun e he => by rw [hd] at he; cases he⟩
        · cases hg
      · cases h
    · cases h

theorem trCode_ok {P : Program} {N : Nat} : ∀ {c : Code} {m : MC}, trCode P N c = some m → TrC P N c m
  | .skip, m, h => by
    simp [trCode] at h
    subst h
    exact .skip
  | .region id ops draw, m, h => by
    simp only [trCode] at h
    split at h
    · rename_i gs hgs
      cases draw with
      | false =>
        simp only [cond_false, Option.some.injEq] at h
        subst h
        have := TrC.reg (id := id) (ops := ops.toList) (P := P) (N := N) (gs := gs) (by simpa using trGOs_ok hgs)
        simpa using this
      | true =>
        simp only [cond_true] at h
        split at h
        · rename_i n hn
          simp only [Option.some.injEq] at h
          subst h
          have := TrC.draw (id := id) (ops := ops.toList) (P := P) (N := N) (gs := gs) (n := n) (by simpa using trGOs_ok hgs) (by simpa using drawCk_ok (nqGo_ok hn))
          simpa using this
        · cases h
    · cases h
  | .seq a b, m, h => by
    simp only [trCode] at h
    split at h
    · rename_i x hx
      split at h
      · rename_i y hy
        simp only [Option.some.injEq] at h
        subst h
        exact .seq (trCode_ok hx) (trCode_ok hy)
      · cases h
    · cases h
  | .cond c a b, m, h => by
    simp only [trCode] at h
    split at h
    · rename_i x hx
      split at h
      · rename_i y hy
        simp only [Option.some.injEq] at h
        subst h
        exact .cond (trCode_ok hx) (trCode_ok hy)
      · cases h
    · cases h
  | .block id a, m, h => by
    simp only [trCode] at h
    split at h
    · rename_i x hx
      simp only [Option.some.injEq] at h
      subst h
      exact .block (trCode_ok hx)
    · cases h
  | .loop a, m, h => by
    simp only [trCode] at h
    split at h
    · rename_i x hx
      simp only [Option.some.injEq] at h
      subst h
      exact .loop (trCode_ok hx)
    · cases h
  | .exit id, m, h => by
    simp [trCode] at h
    subst h
    exact .exit
  | .ret, m, h => by
    simp [trCode] at h
    subst h
    exact .ret
  | .rangeFunc g ps a b, m, h => by
    simp only [trCode] at h
    split at h
    · rename_i x hx
      split at h
      · rename_i y hy
        split at h
        · rename_i hc
          simp only [Option.some.injEq] at h
          subst h
          simp only [Bool.and_eq_true, List.all_eq_true, decide_eq_true_eq] at hc
          exact .rng hc.1.1 hc.1.2 hc.2 (trCode_ok hx) (trCode_ok hy)
        · cases h
      · cases h
    · cases h
  | .scope .., m, h => by simp [trCode] at h
  | .label .., m, h => by simp [trCode] at h
  | .goto .., m, h => by simp [trCode] at h
  | .refuse .., m, h => by simp [trCode] at h

/-- What is read of a function, closed: its code, and its results. -/
structure Reads (P : Program) (f : FuncId) (m : MC) (rs : List RV) (N : Nat) : Prop where
  fn : ∃ fn c, P.funcs[f]? = some fn ∧ fn.body = some c ∧ fn.ntmps = N ∧ trCode P fn.ntmps c = some m ∧ fn.results.toList.mapM (trRes P) = some rs ∧ (fn.name == "runtime.NumGoroutine") = false

theorem fp_of {P : Program} {f : FuncId} {m : MC} {rs : List RV} {N : Nat} {args : List AV} {post : AV → Prop} (h : Reads P f m rs N) (hn : args.length ≤ N)
    (hv : vc P 0 m ⟨args0 0 args, [], 0⟩ fun e s' => match e with
      | .normal => RetO s' rs post
      | .ret => RetO s' rs post
      | _ => False) : FP P f args post := by
  obtain ⟨fn, c, hf, hb, rfl, ht, hr, _⟩ := h.fn
  exact fp_of_vc hf hb (trCode_ok ht) hr hn hv

theorem fc_of {P : Program} {f : FuncId} {m : MC} {rs : List RV} {N : Nat} {args : List AV} {N0 N' : Nat} {σ0 : List (Nat × Bx)} {post : AV → List (Nat × Bx) → Prop} (h : Reads P f m rs N) (hn : args.length ≤ N) (hny : ∀ l b y, look σ0 l ≠ some (.yc b y))
    (hv : vc P N0 m ⟨args0 0 args, σ0, N0⟩ fun e s' => match e with
      | .normal => RetB N0 N' σ0 s' rs post
      | .ret => RetB N0 N' σ0 s' rs post
      | _ => False) : FC P f N0 args σ0 N' post := by
  obtain ⟨fn, c, hf, hb, rfl, ht, hr, _⟩ := h.fn
  exact fc_of_vc hf hb (trCode_ok ht) hr hn hny hv

theorem ic_of {P : Program} {f : FuncId} {m : MC} {rs : List RV} {N : Nat} {caps : List AV} {N0 : Nat} {σ : List (Nat × Bx)} {xs : List (List AV)} (h : Reads P f m rs N) (hfl : m.flat = true) (hn : caps.length + 1 ≤ N) (hny : ∀ l b y, look σ l ≠ some (.yc b y))
    (hv : ∀ b, vc P (N0 + 1) m ⟨args0 0 (.vl (.func (.yield b) #[] #[]) :: caps), (N0, .yc b (some xs)) :: σ, N0 + 1⟩ fun e s' => match e with
      | .normal => RetY N0 b s' rs
      | .ret => RetY N0 b s' rs
      | _ => False) : IC P f N0 caps σ xs := by
  obtain ⟨fn, c, hf, hb, rfl, ht, hr, _⟩ := h.fn
  exact ic_of_vc hf hb (trCode_ok ht) hfl hr hn hny hv

theorem Reads.ent {P : Program} {f : FuncId} {m : MC} {rs : List RV} {N : Nat} (h : Reads P f m rs N) : Ent P f := by
  obtain ⟨fn, c, hf, hb, _, _, _, hn⟩ := h.fn
  intro args w
  have hn' : ¬ fn.name = "runtime.NumGoroutine" := by simpa using hn
  simp [callFunc, hf, hn', hb]
end Go.QL
