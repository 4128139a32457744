/- The law WorkersCover. -/
import Derived.Test.YtfhkfahgimibaaaL3
namespace Go.QL
open Go.Proofs.Try
/-- How many of the first i tasks fall to a worker. -/
def cnW (w i a : Nat) : Nat := if a < w then (i + w - 1 - a) / w else 0
def cC (w i : Nat) : List AV := (List.range 8).map fun a => I ((cnW w i a : Nat) : Int)
theorem cnW_succ {w i a : Nat} (h0 : 1 ≤ w) (h8 : w ≤ 8) : cnW w (i + 1) a = cnW w i a + if i % w = a then 1 else 0 := by
  unfold cnW
  have : w = 1 ∨ w = 2 ∨ w = 3 ∨ w = 4 ∨ w = 5 ∨ w = 6 ∨ w = 7 ∨ w = 8 := by omega
  rcases this with rfl | rfl | rfl | rfl | rfl | rfl | rfl | rfl <;> (repeat' split) <;> omega
theorem cnW_diff {w i a b : Nat} (h0 : 1 ≤ w) (h8 : w ≤ 8) (ha : a < w) (hb : b < w) : cnW w i a ≤ cnW w i b + 1 := by
  unfold cnW
  have : w = 1 ∨ w = 2 ∨ w = 3 ∨ w = 4 ∨ w = 5 ∨ w = 6 ∨ w = 7 ∨ w = 8 := by omega
  rcases this with rfl | rfl | rfl | rfl | rfl | rfl | rfl | rfl <;> (repeat' split) <;> omega
theorem cnW_le {w i a : Nat} (h0 : 1 ≤ w) : cnW w i a ≤ i := by
  unfold cnW
  split
  · refine Nat.le_trans (Nat.div_le_div_right (c := w) (show i + w - 1 - a ≤ i + w - 1 by omega)) ?_
    rw [Nat.div_le_iff_le_mul_add_pred (by omega)]
    have : i ≤ w * i := Nat.le_mul_of_pos_left i (by omega)
    omega
  · omega
theorem cC_len (w i : Nat) : (cC w i).length = 8 := by simp [cC]
theorem cC_lbs (w i m : Nat) : lbs m (cC w i) := (lbs_iff _ _).2 fun x hx => by
  obtain ⟨k, _, rfl⟩ := List.mem_map.1 hx
  simp [lb]
theorem cC_get {w i a : Nat} (h : a < 8) : ((cC w i).drop a).headD .any = I ((cnW w i a : Nat) : Int) := by
  rw [List.drop_eq_getElem_cons (by simpa [cC_len] using h)]
  simp [cC]
theorem cC_succ {w i : Nat} (h0 : 1 ≤ w) (h8 : w ≤ 8) : (cC w i).take (i % w) ++ [I (((cnW w i (i % w) : Nat) : Int) + 1)] ++ (cC w i).drop (i % w + 1) = cC w (i + 1) := by
  have hm : i % w < w := Nat.mod_lt _ (by omega)
  have e0 : (cC w i).take (i % w) ++ [I (((cnW w i (i % w) : Nat) : Int) + 1)] ++ (cC w i).drop (i % w + 1) = (cC w i).set (i % w) (I (((cnW w i (i % w) : Nat) : Int) + 1)) := by
    rw [List.set_eq_take_append_cons_drop, if_pos (by rw [cC_len]; omega)]
    simp
  rw [e0]
  refine List.ext_getElem (by simp [cC_len]) fun j h1 h2 => ?_
  rw [List.getElem_set]
  by_cases e : i % w = j
  · subst e
    simp [cC, cnW_succ h0 h8]
  · simp [cC, cnW_succ h0 h8, e]
theorem width_bd {f t p k : Int} (hk : 0 ≤ k) (hp : 1 ≤ p) (hd : 0 ≤ t - f) : (t - f) / p ≤ atV f t p (k + 1) - atV f t p k ∧ atV f t p (k + 1) - atV f t p k ≤ (t - f) / p + 1 := by
  unfold atV
  have h1 : 0 ≤ (t - f) * k := Int.mul_nonneg hd hk
  have h2 : 0 ≤ (t - f) * (k + 1) := Int.mul_nonneg hd (by omega)
  rw [Int.tdiv_eq_ediv_of_nonneg h1, Int.tdiv_eq_ediv_of_nonneg h2]
  have e : (t - f) * (k + 1) = (t - f) * k + (t - f) := by rw [Int.mul_add, Int.mul_one]
  rw [e]
  generalize (t - f) * k = x at h1 h2 ⊢
  generalize t - f = d at hd ⊢
  have a1 := Int.mul_ediv_add_emod x p
  have a2 := Int.mul_ediv_add_emod d p
  have a3 := Int.mul_ediv_add_emod (x + d) p
  have b1 := Int.emod_nonneg x (show p ≠ 0 by omega)
  have b2 := Int.emod_lt_of_pos x (show 0 < p by omega)
  have b3 := Int.emod_nonneg d (show p ≠ 0 by omega)
  have b4 := Int.emod_lt_of_pos d (show 0 < p by omega)
  have b5 := Int.emod_nonneg (x + d) (show p ≠ 0 by omega)
  have b6 := Int.emod_lt_of_pos (x + d) (show 0 < p by omega)
  generalize x / p = A at *
  generalize d / p = B at *
  generalize (x + d) / p = C at *
  have e1 : p * (C - A - B) = p * C - p * A - p * B := by rw [Int.mul_sub, Int.mul_sub]
  have z1 : ¬ C - A - B ≤ -1 := fun h => by
    have := Int.mul_le_mul_of_nonneg_left h (show 0 ≤ p by omega)
    omega
  have z2 : ¬ 2 ≤ C - A - B := fun h => by
    have := Int.mul_le_mul_of_nonneg_left h (show 0 ≤ p by omega)
    omega
  omega
theorem atV_zero (f t p : Int) : atV f t p 0 = f := by simp [atV]
theorem atV_all {f t p : Int} (hp : 1 ≤ p) : atV f t p p = t := by
  unfold atV
  rw [Int.mul_tdiv_cancel _ (by omega)]
  omega
theorem cC_zero {w : Nat} (h0 : 1 ≤ w) (h8 : w ≤ 8) : cC w 0 = [I 0, I 0, I 0, I 0, I 0, I 0, I 0, I 0] := by
  have : w = 1 ∨ w = 2 ∨ w = 3 ∨ w = 4 ∨ w = 5 ∨ w = 6 ∨ w = 7 ∨ w = 8 := by omega
  rcases this with rfl | rfl | rfl | rfl | rfl | rfl | rfl | rfl <;> rfl
theorem asg_get {f t p w : Int} {i : Nat} (h : i < p.toNat) : ((assignL f t p w).map Tsk.enc).getD i [] = [I (i : Int), I ((i : Int).tmod w), I (atV f t p i), I (atV f t p ((i : Int) + 1))] := by
  rw [getD_tsk (by rw [asN]; exact h)]
  simp [assignL, Tsk.enc]
set_option maxRecDepth 100000 in
theorem c4 (f t p w : Int) : FP prog 4 [I f, I t, I p, I w] (fun x => x = B true) := by
  refine fp_start r4 (by simp) ?_
  simp only [go_sem, m4, Nat.reduceAdd]
  refine call_eq (by simp [lbs]) c8 ?_
  simp only [go_sem, Nat.reduceBEq]
  refine call_eq (by simp [lbs, lb]) (c10e f t p w) ?_
  simp only [go_sem, Nat.reduceAdd, Nat.reduceBEq]
  refine ⟨by omega, by omega, ?_⟩
  by_cases hok : assignOK f t p w = true
  · have hr : assignR f t p w = (assignL f t p w, 0) := by
      unfold assignR
      rw [if_pos hok]
    have hok' := hok
    simp only [assignOK, Bool.and_eq_true, decide_eq_true_eq] at hok'
    obtain ⟨⟨⟨⟨hf0, hf1⟩, ht0, ht1⟩, hw0, hw1⟩, hp0, hp1⟩ := hok'
    have hp2 : p ≤ 32 := by omega
    have hp3 : p ≤ t - f := by omega
    have hg0 : ((assignL f t p w).map Tsk.enc).getD 0 [] = [I ((0 : Nat) : Int), I (((0 : Nat) : Int).tmod w), I (atV f t p ((0 : Nat) : Int)), I (atV f t p (((0 : Nat) : Int) + 1))] := asg_get (by omega)
    have hg1 : ((assignL f t p w).map Tsk.enc).getD (p - 1).toNat [] = [I (((p - 1).toNat : Nat) : Int), I ((((p - 1).toNat : Nat) : Int).tmod w), I (atV f t p (((p - 1).toNat : Nat) : Int)), I (atV f t p ((((p - 1).toNat : Nat) : Int) + 1))] := asg_get (by omega)
    rw [hr]
    refine cond_split (fun h => ?_) (fun _ => ?_)
    · simp at h
    simp only [go_sem, Nat.reduceAdd, Nat.reduceBEq, Nat.reduceLeDiff, List.length_map, asN, hg0, hg1, Int.toNat_zero]
    have hpn : ((p.toNat : Nat) : Int) = p := by omega
    have hpm : (((p - 1).toNat : Nat) : Int) + 1 = p := by omega
    have ha0 : atV f t p ((0 : Nat) : Int) = f := atV_zero f t p
    have hap : atV f t p p = t := atV_all hp0
    refine ⟨fun _ => by omega, fun _ => by unfold InR; omega, fun _ => by omega, ?_⟩
    refine cond_split (fun h => ?_) (fun _ => ?_)
    · exfalso
      rw [hpm, hap, ha0, hpn] at h
      simp at h
      omega
    obtain ⟨W, rfl⟩ : ∃ W : Nat, w = W := ⟨w.toNat, by omega⟩
    have hW0 : 1 ≤ W := by omega
    have hW8 : W ≤ 8 := by omega
    have hd0 : 0 ≤ t - f := by omega
    have hq1 : 1 ≤ (t - f) / p := by
      rw [Int.le_ediv_iff_mul_le (by omega)]
      omega
    have hq2 : (t - f) / p ≤ t - f := Int.ediv_le_self _ hd0
    simp only [go_sem, Nat.reduceBEq]
    refine ⟨by unfold InR; omega, ?_⟩
    refine loop_use (fun m s => ∃ (i n : Nat) (lo hi : Int), i ≤ p.toNat ∧ 1 ≤ n ∧ (t - f) / p ≤ lo ∧ lo ≤ 10000000 ∧ 0 ≤ hi ∧ hi ≤ (t - f) / p + 1 ∧ m = p.toNat - i ∧ s = ⟨[(15, I i), (14, I hi), (13, I lo), (12, .ptr 0 0), (9, B true), (10, .sl ((assignL f t p W).map Tsk.enc)), (3, I W)], [(0, .cs (cC W i))], n⟩) p.toNat _ ⟨0, 1, t - f, 0, by omega, by omega, by omega, by omega, by omega, by omega, rfl, rfl⟩ (by simp) ?_ ?_
    · refine le_use ?_
      simp only [go_sem, Nat.reduceBEq]
      rw [cC_zero hW0 hW8]
      simp [lb, tsks_lb, lbBx, lbs]
    · rintro m s ⟨i, n, lo, hi, hi1, hn, hlo1, hlo2, hhi1, hhi2, rfl, rfl⟩
      have h0n : (0 == n) = false := nb (by omega)
      simp only [go_sem, Nat.reduceBEq]
      refine cond_split (fun hc => ?_) (fun hc => ?_)
      · have hlt : i < p.toNat := by simp [asN] at hc; omega
        have hgi : ((assignL f t p W).map Tsk.enc).getD ((i : Int) - 1).toNat [] = [I ((i - 1 : Nat) : Int), I (((i - 1 : Nat) : Int).tmod W), I (atV f t p ((i - 1 : Nat) : Int)), I (atV f t p (((i - 1 : Nat) : Int) + 1))] := by
          rw [show ((i : Int) - 1).toNat = i - 1 from by omega]
          exact asg_get (by omega)
        simp only [go_sem, Nat.reduceAdd, Nat.reduceBEq, Nat.reduceLeDiff, Int.toNat_natCast, asg_get hlt, hgi, List.length_map, asN]
        have hm : ((i : Int)).tmod W = ((i % W : Nat) : Int) := by
          rw [Int.tmod_eq_emod_of_nonneg (Int.natCast_nonneg _)]
          rfl
        have hml : i % W < W := Nat.mod_lt _ (by omega)
        have hbd := width_bd (f := f) (t := t) (p := p) (k := (i : Int)) (by omega) hp0 hd0
        rw [hm]
        refine ⟨by omega, fun _ => by unfold InR; omega, fun h => ?_, ?_⟩
        · simp at h
          omega
        refine cond_split (fun h => ?_) (fun _ => ?_)
        · exfalso
          by_cases hi0 : 0 < i
          · rw [show ((i - 1 : Nat) : Int) + 1 = (i : Int) from by omega] at h
            simp at h
            omega
          · simp at h
            omega
        have hcl := cnW_le (w := W) (i := i) (a := i % W) hW0
        simp only [cC_get (show i % W < 8 by omega), cC_len, go_sem, Nat.reduceAdd, Nat.reduceBEq, Nat.reduceLeDiff, Int.toNat_natCast, h0n, Nat.mul_one, Nat.zero_add]
        have hW1 : (W : Int) ≤ 8 := hw1
        refine ⟨by omega, by omega, by unfold InR; omega, by omega, by omega, by unfold InR; omega, by unfold InR; omega, by unfold InR; omega, p.toNat - (i + 1), _, by omega, ⟨i + 1, n + 1, min lo (atV f t p ((i : Int) + 1) - atV f t p i), max hi (atV f t p ((i : Int) + 1) - atV f t p i), hlt, by omega, by omega, by omega, by omega, by omega, rfl, rfl⟩, by simp; try omega, ?_⟩
        refine le_use ?_
        rw [← cC_succ hW0 hW8]
        simp only [go_sem, Nat.reduceBEq, h0n]
        refine ⟨⟨by simp, by simp [lb], tsks_lb _ _⟩, by omega, ?_⟩
        show lbs _ _
        rw [cC_succ hW0 hW8]
        exact cC_lbs _ _ _
      · have hge : i = p.toNat := by simp [asN] at hc; omega
        subst hge
        simp only [go_sem]
        refine loop_use (fun m s => ∃ (a n : Nat), a ≤ W ∧ 1 ≤ n ∧ m = W - a ∧ s = ⟨[(17, I a), (14, I hi), (13, I lo), (12, .ptr 0 0), (9, B true), (3, I W)], [(0, .cs (cC W p.toNat))], n⟩) W _ ⟨0, n, by omega, by omega, rfl, rfl⟩ (by simp; try omega) ?_ ?_
        · refine le_use ?_
          simp only [go_sem, Nat.reduceBEq]
          simp [lb, lbBx, cC_lbs]
          omega
        · rintro m s ⟨a, n1, ha, hn1, rfl, rfl⟩
          simp only [go_sem, Nat.reduceBEq]
          refine cond_split (fun hd => ?_) (fun hd => ?_)
          · have haw : a < W := by simp at hd; omega
            simp only [go_sem]
            refine loop_use (fun m s => ∃ (b n2 : Nat), b ≤ W ∧ n1 ≤ n2 ∧ m = W - b ∧ s = ⟨[(18, I b), (17, I a), (14, I hi), (13, I lo), (12, .ptr 0 0), (9, B true), (3, I W)], [(0, .cs (cC W p.toNat))], n2⟩) W _ ⟨0, n1, by omega, by omega, rfl, rfl⟩ (by simp; try omega) ?_ ?_
            · refine le_use ?_
              simp only [go_sem, Nat.reduceBEq]
              simp [lb, lbBx, cC_lbs]
              omega
            · rintro m s ⟨b, n2, hb, hn2, rfl, rfl⟩
              simp only [go_sem, Nat.reduceBEq]
              refine cond_split (fun he => ?_) (fun he => ?_)
              · have hbw : b < W := by simp at he; omega
                have hdf := cnW_diff (i := p.toNat) hW0 hW8 haw hbw
                have hca := cnW_le (w := W) (i := p.toNat) (a := a) hW0
                have hcb := cnW_le (w := W) (i := p.toNat) (a := b) hW0
                simp only [cC_get (show a < 8 by omega), cC_get (show b < 8 by omega), cC_len, go_sem, Nat.reduceBEq, Nat.reduceLeDiff, Int.toNat_natCast, Nat.mul_one, Nat.zero_add]
                refine ⟨by omega, by omega, by omega, by omega, by unfold InR; omega, by unfold InR; omega, W - (b + 1), _, by omega, ⟨b + 1, n2, hbw, hn2, rfl, rfl⟩, Nat.zero_le _, ?_⟩
                refine le_use ?_
                simp only [go_sem, Nat.reduceBEq]
                have hdd : decide (((cnW W p.toNat a : Nat) : Int) - ((cnW W p.toNat b : Nat) : Int) ≤ 1) = true := by
                  simp
                  omega
                simp [lb, lbBx, cC_lbs]
                omega
              · simp only [go_sem, Nat.reduceBEq]
                refine ⟨by unfold InR; omega, W - (a + 1), _, by omega, ⟨a + 1, n2, haw, by omega, rfl, rfl⟩, Nat.zero_le _, ?_⟩
                refine le_use ?_
                simp only [go_sem, Nat.reduceBEq]
                simp [lb, lbBx, cC_lbs]
                omega
          · simp only [go_sem, Nat.reduceBEq]
            refine ⟨fun _ => by unfold InR; omega, ?_⟩
            rw [show (decide (1 ≤ lo) && decide (hi - lo ≤ 1)) = true by simp; omega]
  · have hr : assignR f t p w = ([], 1) := by
      unfold assignR
      rw [if_neg hok]
    rw [hr]
    refine cond_split (fun _ => ?_) (fun h => ?_)
    · simp only [go_sem, Nat.reduceBEq, List.map_nil, List.length_nil]
      rfl
    · simp at h
end Go.QL
