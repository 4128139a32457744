/- Contracts: dividing a time. -/
import Derived.Test.YtfhkfahgimibaaaFuns
namespace Go.QL
open Go.Proofs.Try
theorem c20 (n lo hi : Int) : FP prog 20 [I n, I lo, I hi] (fun x => x = B (decide (lo ≤ n) && decide (n ≤ hi))) := by
  refine fp_start r20 (by simp) ?_
  simp only [go_sem, m20, Nat.reduceAdd, Nat.reduceBEq]
theorem tdiv_bd (a p : Int) (h : 0 ≤ a) (hp : 1 ≤ p) : 0 ≤ a.tdiv p ∧ a.tdiv p ≤ a := ⟨Int.tdiv_nonneg h (by omega), by
  have := Int.tdiv_le_self p h
  exact this⟩
def atV (f t p k : Int) : Int := f + ((t - f) * k).tdiv p
def atσ (f t p : Int) : List (Nat × Bx) := [(2, .cs [I p]), (1, .cs [I t]), (0, .cs [I f])]
theorem c36 (k f t p : Int) (hp : p ≠ 0) (h1 : InR (t - f)) (h2 : InR ((t - f) * k)) (h3 : InR (((t - f) * k).tdiv p)) (h4 : InR (atV f t p k)) :
    FC prog 36 3 [I k, .ptr 0 0, .ptr 1 0, .ptr 2 0] (atσ f t p) 3 (fun r σ => r = I (atV f t p k) ∧ σ = atσ f t p) := by
  refine fc_start r36 (by simp) rfl ?_
  simp only [go_sem, m36, Nat.reduceAdd, Nat.reduceBEq, atσ]
  refine ⟨h1, h2, ⟨hp, h3⟩, h4, keep_use [0, 1, 2] (by simp) (by simp [look]) ?_⟩
  simp [keepL, frz, atV]
def divF : AV := .fn (.func 37) [] [.ptr 2 0, .ptr 3 0]
def divσ (f t p : Int) : List (Nat × Bx) := (3, .cs [.fn (.func 36) [] [.ptr 0 0, .ptr 1 0, .ptr 2 0]]) :: atσ f t p
theorem c21 (f t p : Int) : FC prog 21 0 [I f, I t, I p] [] 4 (fun r σ => r = divF ∧ σ = divσ f t p) := by
  refine fc_start r21 (by simp) rfl ?_
  simp only [go_sem, m21, Nat.reduceAdd, Nat.reduceBEq]
  refine keep_use [0, 1, 2, 3] (by simp) (by simp) ?_
  simp [keepL, frz, divF, divσ, atσ]
def divXs (f t p : Int) : List (List AV) := (List.range p.toNat).map fun (k : Nat) => [I (k : Int), .agg [I (atV f t p k), I (atV f t p ((k : Int) + 1))]]
theorem c37 (f t p : Int) (hf : 0 ≤ f) (ht : f ≤ t) (ht2 : t ≤ 10000000) (hp : 1 ≤ p) (hp2 : p ≤ 32) : IC prog 37 4 [.ptr 2 0, .ptr 3 0] (divσ f t p) (divXs f t p) := by
  refine ic_start r37 rfl (by simp) rfl fun b => ?_
  simp only [go_sem, m37, Nat.reduceAdd, Nat.reduceBEq, divσ, atσ]
  refine loop_use (fun m s => ∃ i : Nat, (i : Int) ≤ p ∧ m = p.toNat - i ∧ s = ⟨[(6, I i), (5, I p), (0, .vl (.func (.yield b) #[] #[])), (1, .ptr 2 0), (2, .ptr 3 0)], (4, .yc b (some ((divXs f t p).drop i))) :: divσ f t p, 5⟩) p.toNat _ ⟨0, by omega, by omega, rfl⟩ (by simp) ?_ ?_
  · refine le_use ?_
    simp only [go_sem, Nat.reduceBEq, divσ, atσ]
    simp [lbBx, lb, lbs]
  · rintro m s ⟨i, hi, rfl, rfl⟩
    simp only [go_sem, Nat.reduceBEq, divσ, atσ]
    refine cond_split (fun hc => ?_) (fun hc => ?_)
    · have hlt : (i : Int) < p := by simpa using hc
      simp only [go_sem, Nat.reduceBEq]
      have e1 : (divXs f t p).drop i = [I (i : Int), .agg [I (atV f t p i), I (atV f t p ((i : Int) + 1))]] :: (divXs f t p).drop (i + 1) := by
        rw [List.drop_eq_getElem_cons (by simp [divXs]; omega)]
        simp [divXs]
      have bd : ∀ k : Int, 0 ≤ k → k ≤ 33 → 0 ≤ (t - f) * k ∧ (t - f) * k ≤ 330000000 ∧ 0 ≤ ((t - f) * k).tdiv p ∧ ((t - f) * k).tdiv p ≤ 330000000 := fun k h0 h1 => by
        have a1 : 0 ≤ (t - f) * k := Int.mul_nonneg (by omega) h0
        have a2 : (t - f) * k ≤ 10000000 * 33 := Int.mul_le_mul (by omega) h1 h0 (by omega)
        have a3 := tdiv_bd _ p a1 hp
        omega
      have c : ∀ k : Int, 0 ≤ k → k ≤ 33 → FC prog 36 3 [I k, .ptr 0 0, .ptr 1 0, .ptr 2 0] (atσ f t p) 3 (fun r σ => r = I (atV f t p k) ∧ σ = atσ f t p) := fun k h0 h1 => by
        have := bd k h0 h1
        exact c36 k f t p (by omega) (by unfold InR; omega) (by unfold InR; omega) (by unfold InR; omega) (by unfold InR atV; omega)
      refine ⟨r36.ent, callR_use [0, 1, 2] _ (atσ f t p) (I (atV f t p i)) rfl (by simp [lbs, lb]) (by simp) (by simp) (by simp [bxs, atσ, lbBx, lbs, lb, look, renBx, rens, ren]) (by simp [lb]) (c i (by omega) (by omega)) ?_⟩
      simp only [go_sem, Nat.reduceBEq]
      refine ⟨by unfold InR; omega, r36.ent, callR_use [0, 1, 2] _ (atσ f t p) (I (atV f t p ((i : Int) + 1))) rfl (by simp [lbs, lb]) (by simp) (by simp) (by simp [bxs, atσ, lbBx, lbs, lb, look, renBx, rens, ren]) (by simp [lb]) (c _ (by omega) (by omega)) ?_⟩
      simp only [go_sem, Nat.reduceAdd, Nat.reduceBEq, Nat.reduceLeDiff]
      refine yield_use 4 ((divXs f t p).drop (i + 1)) (by rw [e1]; simp [look]) (by simp [lbs, lb]) ?_ ?_
      · simp only [go_sem, Nat.reduceBEq]
        refine ⟨by unfold InR; omega, p.toNat - (i + 1), _, by omega, ⟨i + 1, by omega, rfl, rfl⟩, by simp, ?_⟩
        refine le_use ?_
        simp only [go_sem, Nat.reduceBEq]
        simp [lbBx, lb, lbs]
      · simp only [go_sem]
        exact ⟨_, rfl, .inr rfl⟩
    · have hge : (i : Int) = p := by
        have : ¬ (i : Int) < p := by simpa using hc
        omega
      simp only [go_sem]
      refine ⟨_, rfl, .inl ?_⟩
      rw [List.drop_of_length_le]
      simp [divXs]; omega
end Go.QL
