/- All quiet operations at once. -/
import Derived.Test.YtfhkfahgimibaaaMaps
namespace Go.QL
def MO.quiet : MO → Bool
  | .store .. | .call .. | .callv .. | .append .. | .mkm | .mset .. | .other => false
  | _ => true

theorem q_all {P : Program} {k : KW} {a : Act} {o : Oper} {m : MO} {l : Nat} {K : AV → List Bx → Prop} {g : Operand → AV} {σ : Nat → Option Bx} {c : Bool}
    (ht : trOp P o.op = some m) (hg : ∀ x, Den k (g x) (a.eval x)) (hσ : ∀ l x b, k.ρ l = some b → σ l = some x → BxOK k l x) (hc : c = true) (h : qv c m g σ l K) : QOK P k a o l K := by
  cases ho : o.op with
  | move x =>
    simp only [ho, trOp, Option.some.injEq] at ht
    subst ht
    exact q_mv (.inl ho) (hg x) h
  | assign x =>
    simp only [ho, trOp, Option.some.injEq] at ht
    subst ht
    exact q_mv (.inr ho) (hg x) h
  | pick x y z =>
    simp only [ho, trOp, Option.some.injEq] at ht
    subst ht
    exact q_pick ho hg hc h
  | alloc t =>
    simp only [ho, trOp, Option.map_eq_some_iff] at ht
    obtain ⟨z, hz, rfl⟩ := ht
    exact q_alloc ho hz h
  | box t x =>
    simp only [ho, trOp, Option.map_eq_some_iff] at ht
    obtain ⟨z, hz, rfl⟩ := ht
    exact q_box ho hg hc h
  | build t ps =>
    simp only [ho, trOp] at ht
    split at ht
    · rename_i z qs hz hq
      split at ht
      · rename_i hf
        simp only [Option.some.injEq] at ht
        subst ht
        exact q_build ho hz hq hf hg hc h
      · cases ht
    · cases ht
  | buildSlice t len ps =>
    simp only [ho, trOp] at ht
    split at ht
    · rename_i e hu
      split at ht
      · rename_i n z hn hz
        split at ht
        · rename_i hh
          simp only [Option.some.injEq] at ht
          subst ht
          exact q_bsl ho hu hn hz hh.1 hh.2.1 hh.2.2.1 hh.2.2.2 hg hc h
        · cases ht
      · cases ht
    · cases ht
  | load t x =>
    simp only [ho, trOp] at ht
    split at ht
    · rename_i d n hu hn
      simp only [Option.some.injEq] at ht
      subst ht
      exact q_load ho hu hn hg hσ hc h
    · cases ht
  | store t x y =>
    simp only [ho, trOp, Option.map_eq_some_iff] at ht
    obtain ⟨z, hz, rfl⟩ := ht
    exact h.elim
  | binOp op t x y u =>
    simp only [ho, trOp] at ht
    split at ht
    · simp only [Option.some.injEq] at ht
      subst ht
      exact q_bin ho hg hc h
    · simp only [Option.some.injEq] at ht
      subst ht
      exact q_bin ho hg hc h
    · rename_i hu
      split at ht
      · simp only [Option.some.injEq] at ht
        subst ht
        exact q_beq (neg := false) (by simpa using ho) hu hg hc h
      · simp only [Option.some.injEq] at ht
        subst ht
        exact q_beq (neg := true) (by simpa using ho) hu hg hc h
      · cases ht
    · rename_i fs hu
      unfold trEqs at ht
      split at ht
      · cases ht
      · rename_i hgd
        split at ht
        · rename_i ks hk
          simp only [Option.some.injEq] at ht
          subst ht
          exact q_beqs (neg := false) (by simpa using ho) hu hk (by simpa using hgd) hg hc h
        · rename_i ks hk
          simp only [Option.some.injEq] at ht
          subst ht
          exact q_beqs (neg := true) (by simpa using ho) hu hk (by simpa using hgd) hg hc h
        · cases ht
    · cases ht
  | unOp op t x =>
    simp only [ho, trOp, Option.some.injEq] at ht
    subst ht
    exact q_un ho hg hc h
  | convert s d x =>
    simp only [ho, trOp] at ht
    split at ht
    · rename_i q q' hs hd
      simp only [Option.some.injEq] at ht
      subst ht
      exact q_conv ho hs hd hg hc h
    · cases ht
  | fieldAddr s x f =>
    simp only [ho, trOp] at ht
    split at ht
    · rename_i fs hs
      split at ht
      · rename_i fl hf
        split at ht
        · rename_i n hn
          split at ht
          · rename_i h0
            simp only [Option.some.injEq] at ht
            subst ht
            exact q_faddr ho hs hf hn h0 hg hc h
          · cases ht
        · cases ht
      · cases ht
    · cases ht
  | indexAddr t x i =>
    simp only [ho, trOp] at ht
    split at ht
    · rename_i e hu
      simp only [Option.map_eq_some_iff] at ht
      obtain ⟨n, hn, rfl⟩ := ht
      exact q_iaddr ho hu hn hg hc h
    · rename_i len e hu
      simp only [Option.map_eq_some_iff] at ht
      obtain ⟨n, hn, rfl⟩ := ht
      exact q_aaddr ho hu hn hg hc h
    · cases ht
  | index t x i =>
    simp only [ho, trOp] at ht
    split at ht
    · rename_i len e hu
      split at ht
      · rename_i n d hn hd
        simp only [Option.some.injEq] at ht
        subst ht
        exact q_idx ho hu hn hd hg hc h
      · cases ht
    · cases ht
  | extract x i =>
    simp only [ho, trOp, Option.some.injEq] at ht
    subst ht
    exact q_ext ho hg hc h
  | makeFunc f fs cs =>
    simp only [ho, trOp, Option.some.injEq] at ht
    subst ht
    exact q_mkf ho hg h
  | lookup t m key ok =>
    simp only [ho, trOp] at ht
    split at ht
    · rename_i kt e hu
      split at ht
      · rename_i ks z hm hz
        simp only [Option.some.injEq] at ht
        subst ht
        exact q_lkp ho hu hm hz hg hσ hc h
      · cases ht
    · cases ht
  | makeMap t r =>
    simp only [ho, trOp] at ht
    split at ht
    · simp only [Option.some.injEq] at ht
      subst ht
      exact h.elim
    · cases ht
  | mapUpdate t m key x =>
    simp only [ho, trOp] at ht
    split at ht
    · simp only [Option.map_eq_some_iff] at ht
      obtain ⟨ks, _, rfl⟩ := ht
      exact h.elim
    · cases ht
  | makeSlice t x y =>
    simp only [ho, trOp] at ht
    split at ht
    · rename_i e hu
      split at ht
      · rename_i i z hi hz
        split at ht
        · rename_i hh
          simp only [Option.some.injEq] at ht
          subst ht
          exact q_mks ho hu hi hz hh.2 hh.1 hg hc h
        · cases ht
      · cases ht
    · cases ht
  | slice t x lo hi mx =>
    simp only [ho, trOp] at ht
    split at ht
    · rename_i e hu
      split at ht
      · cases ht
      · rename_i hmx
        simp only [Option.map_eq_some_iff] at ht
        obtain ⟨n, hn, rfl⟩ := ht
        exact q_slc ho hu hn (by intro hm; cases hi <;> simp_all) hg hc h
    · cases ht
  | call cl =>
    obtain ⟨callee, args, argTypes⟩ := cl
    have arr1 : ∀ {α : Type} {xs : Array α} {x : α}, xs.toList = [x] → xs = #[x] := fun {α xs x} h => by
      cases xs
      simp_all
    have arr2 : ∀ {α : Type} {xs : Array α} {x y : α}, xs.toList = [x, y] → xs = #[x, y] := fun {α xs x y} h => by
      cases xs
      simp_all
    simp only [ho, trOp, trCall] at ht
    split at ht
    · skip
      rename_i x hargs
      split at ht
      · rename_i t hty
        split at ht
        · rename_i e hu
          simp only [Option.some.injEq] at ht
          subst ht
          refine q_len (x := x) (t := t) ?_ hu hg hc h
          rw [ho, arr1 hargs, arr1 hty]
        · rename_i hu
          simp only [Option.some.injEq] at ht
          subst ht
          refine q_slen (x := x) (t := t) ?_ hu hg hc h
          rw [ho, arr1 hargs, arr1 hty]
        · cases ht
      · cases ht
    · rename_i x y hargs
      simp only [Option.some.injEq] at ht
      subst ht
      refine q_mm (x := x) (y := y) (t := argTypes) ?_ hg hc h
      rw [ho, arr2 hargs]
      rfl
    · rename_i x y hargs
      simp only [Option.some.injEq] at ht
      subst ht
      refine q_mm (x := x) (y := y) (t := argTypes) ?_ hg hc h
      rw [ho, arr2 hargs]
      rfl
    · (repeat' split at ht) <;> first
        | cases ht; done
        | (simp only [Option.some.injEq] at ht
           subst ht
           exact h.elim)
    · split at ht
      · split at ht
        · simp only [Option.some.injEq] at ht
          subst ht
          exact h.elim
        · cases ht
      · cases ht
    · simp only [Option.some.injEq] at ht
      subst ht
      exact h.elim
    · cases ht
  | _ => simp [ho, trOp] at ht
end Go.QL
