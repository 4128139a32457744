/- Contract: the reference's Assign. -/
import Derived.Test.YtfhkfahgimibaaaW8
namespace Go.QL
open Go.Proofs.Try
theorem look_self0 {l i : Nat} {cs : List AV} (h : 0 < i) : look (obx l i cs) l = some (.cs cs) := by
  have := look_self (l := l) (r := []) h cs
  simpa using this
/-- The first tasks, as cells. -/
def asC (f t p w : Int) (i : Nat) : List AV := (((assignL f t p w).take i).map Tsk.enc).flatten
theorem asN (f t p w : Int) : (assignL f t p w).length = p.toNat := by simp [assignL]
theorem tsks_len {ts : List Tsk} : ∀ e ∈ ts.map Tsk.enc, e.length = 4 := fun e he => by
  obtain ⟨x, _, rfl⟩ := List.mem_map.1 he
  rfl
theorem asC_len (f t p w : Int) {i : Nat} (h : i ≤ p.toNat) : (asC f t p w i).length = i * 4 := by
  unfold asC
  rw [flat_len tsks_len]
  simp [asN]
  omega
theorem asC_lbs (f t p w : Int) (i m : Nat) : lbs m (asC f t p w i) := by
  refine (lbs_iff _ _).2 fun x hx => ?_
  obtain ⟨y, hy, hx⟩ := List.mem_flatten.1 hx
  obtain ⟨z, _, rfl⟩ := List.mem_map.1 hy
  exact (lbs_iff _ _).1 (z.lbs_enc m) x hx
theorem asC_succ (f t p w : Int) {i : Nat} (h : i < p.toNat) : asC f t p w (i + 1) = asC f t p w i ++ [I (i : Int), I ((i : Int).tmod w), I (atV f t p i), I (atV f t p ((i : Int) + 1))] := by
  unfold asC
  rw [List.take_succ_eq_append_getElem (by simp [asN]; omega), List.map_append, List.flatten_append]
  simp [assignL, Tsk.enc]
set_option maxRecDepth 100000 in
theorem c11 (f t p w : Int) : FP prog 11 [I f, I t, I p, I w] (fun x => x = if assignOK f t p w then .tup [.sl ((assignL f t p w).map Tsk.enc), I 0] else .tup [.vl (.slice none 0 0), I 1]) := by
  refine fp_start r11 (by simp) ?_
  simp only [go_sem, m11, Nat.reduceAdd, Nat.reduceBEq]
  refine call_eq (by simp [lbs, lb]) (c22 _) ?_
  simp only [go_sem, Nat.reduceBEq]
  refine call_eq (by simp [lbs, lb]) (c22 _) ?_
  simp only [go_sem, Nat.reduceBEq]
  refine ⟨fun h => ?_, ?_⟩
  · simp at h
    unfold InR
    omega
  refine cond_split (fun hc => ?_) (fun hc => ?_)
  · simp only [go_sem, Nat.reduceBEq]
    have : assignOK f t p w = false := by
      unfold assignOK
      rw [Bool.eq_false_iff]
      intro h
      simp at hc h
      omega
    simp [this]
  · have hok : assignOK f t p w = true := by
      unfold assignOK
      simp at hc ⊢
      omega
    have hok' := hok
    simp only [assignOK, Bool.and_eq_true, decide_eq_true_eq] at hok'
    obtain ⟨⟨⟨⟨hf0, hf1⟩, ht0, ht1⟩, hw0, hw1⟩, hp0, hp1⟩ := hok'
    have hp2 : p ≤ 32 := by omega
    have hp3 : p ≤ t - f := by omega
    simp only [go_sem]
    refine loop_use (fun m s => ∃ i l n, i ≤ p.toNat ∧ (l < n ∨ n + 5 < l) ∧ (0 < i → l < n) ∧ m = p.toNat - i ∧ s = ⟨[(13, I i), (12, olst 4 l i), (2, I p), (1, I t), (0, I f), (3, I w)], obx l i (asC f t p w i), n⟩) p.toNat _ ⟨0, 100, 0, by omega, by omega, by omega, rfl, rfl⟩ (by simp) ?_ ?_
    · refine le_use ?_
      simp only [go_sem, Nat.reduceBEq]
      simp [olst, obx, lb, leB]
    · rintro m s ⟨i, l, n, hi, hln, hl, rfl, rfl⟩
      simp only [go_sem, Nat.reduceBEq]
      refine cond_split (fun hd => ?_) (fun hd => ?_)
      · have hlt : i < p.toNat := by simp at hd; omega
        have bd : ∀ k : Int, 0 ≤ k → k ≤ 33 → 0 ≤ (t - f) * k ∧ (t - f) * k ≤ 330000000 ∧ 0 ≤ ((t - f) * k).tdiv p ∧ ((t - f) * k).tdiv p ≤ 330000000 := fun k h0 h1 => by
          have a1 : 0 ≤ (t - f) * k := Int.mul_nonneg (by omega) h0
          have a2 : (t - f) * k ≤ 10000000 * 33 := Int.mul_le_mul (by omega) h1 h0 (by omega)
          have a3 := tdiv_bd _ p a1 hp0
          omega
        have b1 := bd i (by omega) (by omega)
        have b2 := bd (i + 1) (by omega) (by omega)
        simp only [go_sem, Nat.reduceAdd, Nat.reduceBEq, Nat.reduceLeDiff]
        have hln' : (l == n) = false := nb (by omega)
        have hn1 : (l == n + 1) = false := nb (by omega)
        refine ⟨by omega, by unfold InR; omega, by unfold InR; omega, ⟨by omega, by unfold InR; omega⟩, by unfold InR; omega, by unfold InR; omega, by unfold InR; omega, by unfold InR; omega, ⟨by omega, by unfold InR; omega⟩, by unfold InR; omega,
          app_own (asC_len f t p w hi) (fun h0 => by simp only [look_miss, look_self0 h0, hln']) (by unfold maxLen; omega) (by omega) ?_⟩
        have hno : ∀ x, look ([] : List (Nat × Bx)) l ≠ some x := by simp [look]
        have her : erax l i (obx l i (asC f t p w i)) = [] := by
          have := erax_obx (i := i) (cs := asC f t p w i) hno
          simpa using this
        simp only [go_sem, Nat.reduceBEq, erax_cons hln', her]
        refine ⟨by unfold InR; omega, p.toNat - (i + 1), _, by omega, ⟨i + 1, n + 1, n + 1 + 1, hlt, by omega, by omega, rfl, rfl⟩, by simp, ?_⟩
        refine le_use ?_
        have e2 := asC_succ f t p w hlt
        simp only [atV] at e2
        rw [olst_pos, obx_pos, e2]
        simp only [go_sem, Nat.reduceBEq]
        refine ⟨⟨by simp, by simp [lb]⟩, by omega, lbs_app.2 ⟨asC_lbs _ _ _ _ _ _, by simp [lbs, lb]⟩⟩
      · have hge : i = p.toNat := by simp at hd; omega
        subst hge
        simp only [go_sem, Nat.reduceBEq]
        have e : asC f t p w p.toNat = ((assignL f t p w).map Tsk.enc).flatten := by
          unfold asC
          rw [List.take_of_length_le (by rw [asN]; exact Nat.le_refl _)]
        have hl2 : (List.map Tsk.enc (assignL f t p w)).length = p.toNat := by simp [asN]
        rw [e, ← hl2, frz_rows (fun h => look_self0 h) tsks_len (by
          intro e he
          obtain ⟨x, _, rfl⟩ := List.mem_map.1 he
          simp [Tsk.enc, frz])]
        rw [if_neg (by omega)]
        exact ⟨tsks_lb _ _, by rw [if_pos hok]⟩
end Go.QL
