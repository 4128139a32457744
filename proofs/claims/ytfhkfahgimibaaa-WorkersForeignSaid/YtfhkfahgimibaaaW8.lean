/- Contracts: joining segments, the reference. -/
import Derived.Test.YtfhkfahgimibaaaW7
namespace Go.QL
open Go.Proofs.Try
theorem all_no {ss : List Seg} {i : Nat} (h : i < ss.length) (hn : validS ss[i] = false) : ss.all validS = false := by
  rw [List.all_eq_false]
  exact ⟨ss[i], List.getElem_mem h, by simp [hn]⟩
theorem rsB2 (ss : List Seg) (i : Nat) (h : ∀ j, j < i → (hj : j < ss.length) → validS ss[j] = true) (h32 : ss.length ≤ 32) : ((ss.take i).flatMap Seg.rs).length ≤ 160000 := by
  have := recsB (ss.take i) (all_take fun j hj => by
    simp only [List.length_take] at hj
    simpa using h j (by omega) (by omega)) (by simp; omega) (ss.take i).length
  rwa [List.take_length] at this
/-- The last of the first segments, or what stands for it. -/
def lastV (f : Seg → Int) (ss : List Seg) (i : Nat) : Int := if i = 0 then 0 else (ss[i - 1]?.map f).getD 0
theorem lastV_succ {f : Seg → Int} {ss : List Seg} {i : Nat} (h : i < ss.length) : lastV f ss (i + 1) = f ss[i] := by simp [lastV, h]
set_option maxRecDepth 100000 in
theorem c33 (ss : List Seg) (hlen : ss.length < 2 ^ 62) : FP prog 33 [.sl (ss.map Seg.enc)] (fun x => x = .tup [.agg (joinS ss).1.enc, .vl (.int .i64 (joinS ss).2)]) := by
  refine FP_sub (post := fun x => avle x (.tup [.agg (joinS ss).1.enc, .vl (.int .i64 (joinS ss).2)])) ?_ (fun x hx => ⟨_, rfl, hx⟩)
  refine fp_start r33 (by simp) ?_
  simp only [go_sem, m33, Nat.reduceBEq, List.length_map]
  have hz : ∀ k : Int, avle (.tup [.agg [.vl (.int .i64 0), .vl (.int .i64 0), .vl (.int .u64 0), .vl (.int .u64 0), .vl (.slice none 0 0)], .vl (.int .i64 k)]) (.tup [.agg zeroS.enc, .vl (.int .i64 k)]) :=
    fun k => avle_tup ⟨avle_agg ⟨avle_refl _, avle_refl _, avle_refl _, avle_refl _, avle_nil, trivial⟩, avle_refl _, trivial⟩
  refine cond_split (fun hc => ?_) (fun hc => ?_)
  · have hj : joinS ss = (zeroS, 1) := by
      unfold joinS
      rw [if_pos (by simp only [Bool.or_eq_true, decide_eq_true_eq] at hc; omega)]
    simp only [go_sem, Nat.reduceAdd, Nat.reduceBEq, hj]
    exact hz 1
  · have hn0 : ¬ (ss.length = 0 ∨ 32 < ss.length) := by simp only [Bool.or_eq_false_iff, decide_eq_false_iff_not] at hc; omega
    have hl0 : 0 < ss.length := by omega
    have hg0 : (ss.map Seg.enc).getD 0 [] = ss[0].enc := getD_seg hl0
    simp only [go_sem, Nat.reduceAdd, Nat.reduceBEq, Nat.reduceLeDiff, List.length_map, hg0, Int.toNat_zero, Seg.enc]
    refine ⟨by omega, by omega, ?_⟩
    refine loop_use (fun m s => ∃ (i n' l : Nat) (b : Bool), i ≤ ss.length ∧ 1 < l ∧ 1 < n' ∧ (l < n' ∨ n' + 5 < l) ∧ (b = false → l < n') ∧ (b = true → i = 0) ∧ (∀ j, j < i → (hj : j < ss.length) → validS ss[j] = true) ∧ m = ss.length - i ∧ s = ⟨[(5, I i), (4, .ptr 1 0), (2, .ptr 0 0), (0, .sl (ss.map Seg.enc))],
          obb b l (rsC ss i) ++ [(1, .cs [I ss[0].from_, I (lastV Seg.to ss i), U ss[0].beg, U (lastV Seg.end_ ss i), olb b 11 l ((ss.take i).flatMap Seg.rs).length]), (0, .cs [I 0, I 0, U 0, U 0, .vl (.slice none 0 0)])], n'⟩) ss.length _ ⟨0, 2, 100, true, by omega, by omega, by omega, by omega, by simp, by simp, fun j hj => absurd hj (by omega), rfl, rfl⟩ (by simp) ?_ ?_
    · refine le_use ?_
      simp only [go_sem, Nat.reduceBEq, obb_t, olb_t]
      simp [segs_lb, lbBx, lbs, lb, lastV]
    · rintro m s ⟨i, n', l, b, hi', hnl, hnn, hln, hbl, hb, hok, rfl, rfl⟩
      have e0 : (0 == l) = false := nb (by omega)
      have e1 : (1 == l) = false := nb (by omega)
      simp only [go_sem, Nat.reduceBEq]
      refine cond_split (fun hg => ?_) (fun hg => ?_)
      · have hlt : i < ss.length := by simp at hg; omega
        simp only [go_sem, Nat.reduceAdd, Nat.reduceBEq, Int.toNat_natCast, getD_seg hlt, List.length_map, Seg.enc]
        refine ⟨by omega, call_eq (by simp [lbs, lb, recs_lb]) (c31 ss[i]) ?_⟩
        simp only [go_sem]
        refine cond_split (fun he => ?_) (fun he => ?_)
        · have hj : joinS ss = (zeroS, 1) := by
            unfold joinS
            rw [if_neg hn0, if_pos (all_no hlt (by simpa using he))]
          simp only [go_sem, Nat.reduceAdd, Nat.reduceBEq, hj, look_obb e0, upd_obb e0]
          exact hz 1
        · have hok' : ∀ j, j < i + 1 → (hj : j < ss.length) → validS ss[j] = true := fun j hj hja => by
            by_cases e : j = i
            · subst e
              simpa using he
            · exact hok j (by omega) hja
          have hB := rsB2 ss (i + 1) hok' (by omega)
          rw [rsN_succ hlt] at hB
          simp only [go_sem, Nat.reduceAdd, Nat.reduceBEq, Nat.reduceLeDiff, Int.toNat_natCast, getD_seg hlt, List.length_map, Seg.enc, look_obb e1, upd_obb e1]
          refine ⟨by omega, by omega, by omega, recs_len, app_ownb (rsC_len ss i) (fun h => ?_) (fun h => ?_) (by unfold maxLen; omega) (by omega) ?_⟩
          · have := hb h
            subst this
            simp [rsC]
          · simp only [lookb_self h]
          have hno : ∀ x, look [(1, Bx.cs [I ss[0].from_, I ss[i].to, U ss[0].beg, U ss[i].end_, olb b 11 l (List.flatMap Seg.rs (List.take i ss)).length]), (0, Bx.cs [I 0, I 0, U 0, U 0, AV.vl (Value.slice none 0 0)])] l ≠ some x := by
            intro x
            simp [look, show ¬ l = 1 by omega, show ¬ l = 0 by omega]
          have e6 : (1 == n') = false := nb (by omega)
          have e7 : (0 == n') = false := nb (by omega)
          simp only [go_sem, Nat.reduceAdd, Nat.reduceBEq, erab_obb hno, e6]
          refine ⟨by unfold InR; omega, ss.length - (i + 1), _, by omega, ⟨i + 1, n' + 1, n', false, hlt, by omega, by omega, by omega, by omega, by simp, hok', rfl, rfl⟩, by simp, ?_⟩
          refine le_use ?_
          rw [rsC_succ hlt, rsN_succ hlt, lastV_succ hlt, lastV_succ hlt]
          simp only [go_sem, Nat.reduceBEq, e6, e7, olb_f, obb_f]
          refine ⟨⟨by simp, by simp only [lb]; omega, by simp only [lb]; omega, segs_lb _ _⟩, by omega, lbs_app.2 ⟨rsC_lbs _ _ _, ?_⟩, by omega, by simp [lbBx, lbs, lb], by omega, by simp [lbBx, lbs, lb]⟩
          exact (lbs_app.1 (rsC_succ hlt ▸ rsC_lbs ss (i + 1) _)).2
      · have hge : i = ss.length := by simp at hg; omega
        subst hge
        have hv : ss.all validS = true := all_take fun j hj => hok j hj hj
        have hv' : ¬ ss.all validS = false := by simp [hv]
        simp only [go_sem]
        refine loop_use (fun m s => ∃ j : Nat, 1 ≤ j ∧ j ≤ ss.length ∧ m = ss.length - j ∧ (∀ k, k + 1 < j → pairOK timesP ss k = true) ∧ s = ⟨[(7, I j), (4, .ptr 1 0), (2, .ptr 0 0), (0, .sl (ss.map Seg.enc))],
          obb b l (rsC ss ss.length) ++ [(1, .cs [I ss[0].from_, I (lastV Seg.to ss ss.length), U ss[0].beg, U (lastV Seg.end_ ss ss.length), olb b 11 l ((ss.take ss.length).flatMap Seg.rs).length]), (0, .cs [I 0, I 0, U 0, U 0, .vl (.slice none 0 0)])], n'⟩) (ss.length - 1) _ ⟨1, by omega, by omega, rfl, fun k hk => absurd hk (by omega), rfl⟩ (by omega) ?_ ?_
        · refine le_use ?_
          simp only [go_sem, Nat.reduceBEq]
          refine ⟨⟨rfl, by simp only [lb]; omega, by simp only [lb]; omega, segs_lb _ _⟩, leB_app.2 ⟨leB_obb fun h => ⟨lookb_self h _ _, hbl h, rsC_lbs _ _ _⟩, ?_⟩⟩
          simp [leB, look_obb e1, look_obb e0, look, lbBx, lbs, lb, hnn, show 0 < n' by omega]
          cases b <;> simp [olb, lb, hbl]
        rintro m s ⟨j, hj1, hj2, rfl, hj3, rfl⟩
        have hgj : (ss.map Seg.enc).getD ((j : Int) - 1).toNat [] = (ss[j - 1]'(by omega)).enc := by
          rw [show ((j : Int) - 1).toNat = j - 1 from by omega]
          exact getD_seg (by omega)
        simp only [go_sem, Nat.reduceBEq]
        refine cond_split (fun hh => ?_) (fun hh => ?_)
        · have hlt : j < ss.length := by simp at hh; omega
          simp only [go_sem, Nat.reduceAdd, Nat.reduceBEq, Nat.reduceLeDiff, Int.toNat_natCast, getD_seg hlt, hgj, List.length_map, Seg.enc]
          refine ⟨by omega, by unfold InR; omega, by omega, ?_⟩
          have hpe : pairOK timesP ss (j - 1) = decide (ss[j - 1].to = ss[j].from_) := by
            have := @pairOK_eq timesP ss (j - 1) (by omega)
            rw [this]
            simp only [timesP, show j - 1 + 1 = j from by omega]
          refine cond_split (fun hk => ?_) (fun hk => ?_)
          · have hch : chainS timesP ss = false := chain_no (i := j - 1) (by omega) (by
              rw [hpe]
              simp at hk ⊢
              omega)
            have hj : joinS ss = (zeroS, 18) := by
              unfold joinS
              rw [if_neg hn0, if_neg hv', if_pos hch]
            simp only [go_sem, Nat.reduceAdd, Nat.reduceBEq, hj, look_obb e0, upd_obb e0]
            exact hz 18
          · simp only [go_sem, Nat.reduceBEq]
            refine ⟨by unfold InR; omega, ss.length - (j + 1), _, by omega, ⟨j + 1, by omega, hlt, rfl, fun k hk1 => ?_, rfl⟩, by omega, ?_⟩
            · by_cases e : k = j - 1
              · subst e
                rw [hpe]
                simp at hk ⊢
                omega
              · exact hj3 k (by omega)
            · refine le_use ?_
              simp only [go_sem, Nat.reduceBEq]
              refine ⟨⟨rfl, by simp only [lb]; omega, by simp only [lb]; omega, segs_lb _ _⟩, leB_app.2 ⟨leB_obb fun h => ⟨lookb_self h _ _, hbl h, rsC_lbs _ _ _⟩, ?_⟩⟩
              simp [leB, look_obb e1, look_obb e0, look, lbBx, lbs, lb, hnn, show 0 < n' by omega]
              cases b <;> simp [olb, lb, hbl]
        have hje : j = ss.length := by simp at hh; omega
        subst hje
        have ht : chainS timesP ss = true := by
          unfold chainS
          rw [List.all_eq_true]
          intro k hk
          simp at hk
          exact hj3 k (by omega)
        simp only [go_sem]
        refine loop_use (fun m s => ∃ j : Nat, 1 ≤ j ∧ j ≤ ss.length ∧ m = ss.length - j ∧ (∀ k, k + 1 < j → pairOK sumsP ss k = true) ∧ s = ⟨[(8, I j), (4, .ptr 1 0), (2, .ptr 0 0), (0, .sl (ss.map Seg.enc))],
          obb b l (rsC ss ss.length) ++ [(1, .cs [I ss[0].from_, I (lastV Seg.to ss ss.length), U ss[0].beg, U (lastV Seg.end_ ss ss.length), olb b 11 l ((ss.take ss.length).flatMap Seg.rs).length]), (0, .cs [I 0, I 0, U 0, U 0, .vl (.slice none 0 0)])], n'⟩) (ss.length - 1) _ ⟨1, by omega, by omega, rfl, fun k hk => absurd hk (by omega), rfl⟩ (by omega) ?_ ?_
        · refine le_use ?_
          simp only [go_sem, Nat.reduceBEq]
          refine ⟨⟨rfl, by simp only [lb]; omega, by simp only [lb]; omega, segs_lb _ _⟩, leB_app.2 ⟨leB_obb fun h => ⟨lookb_self h _ _, hbl h, rsC_lbs _ _ _⟩, ?_⟩⟩
          simp [leB, look_obb e1, look_obb e0, look, lbBx, lbs, lb, hnn, show 0 < n' by omega]
          cases b <;> simp [olb, lb, hbl]
        rintro m s ⟨j, hj1, hj2, rfl, hj3, rfl⟩
        have hgj : (ss.map Seg.enc).getD ((j : Int) - 1).toNat [] = (ss[j - 1]'(by omega)).enc := by
          rw [show ((j : Int) - 1).toNat = j - 1 from by omega]
          exact getD_seg (by omega)
        simp only [go_sem, Nat.reduceBEq]
        refine cond_split (fun hh => ?_) (fun hh => ?_)
        · have hlt : j < ss.length := by simp at hh; omega
          simp only [go_sem, Nat.reduceAdd, Nat.reduceBEq, Nat.reduceLeDiff, Int.toNat_natCast, getD_seg hlt, hgj, List.length_map, Seg.enc]
          refine ⟨by omega, by unfold InR; omega, by omega, ?_⟩
          have hpe : pairOK sumsP ss (j - 1) = decide (ss[j - 1].end_ = ss[j].beg) := by
            have := @pairOK_eq sumsP ss (j - 1) (by omega)
            rw [this]
            simp only [sumsP, show j - 1 + 1 = j from by omega]
          refine cond_split (fun hk => ?_) (fun hk => ?_)
          · have hch : chainS sumsP ss = false := chain_no (i := j - 1) (by omega) (by
              rw [hpe]
              simp at hk ⊢
              omega)
            have hj : joinS ss = (zeroS, 11) := by
              unfold joinS
              rw [if_neg hn0, if_neg hv', if_neg (by simp [ht]), if_pos hch]
            simp only [go_sem, Nat.reduceAdd, Nat.reduceBEq, hj, look_obb e0, upd_obb e0]
            exact hz 11
          · simp only [go_sem, Nat.reduceBEq]
            refine ⟨by unfold InR; omega, ss.length - (j + 1), _, by omega, ⟨j + 1, by omega, hlt, rfl, fun k hk1 => ?_, rfl⟩, by omega, ?_⟩
            · by_cases e : k = j - 1
              · subst e
                rw [hpe]
                simp at hk ⊢
                omega
              · exact hj3 k (by omega)
            · refine le_use ?_
              simp only [go_sem, Nat.reduceBEq]
              refine ⟨⟨rfl, by simp only [lb]; omega, by simp only [lb]; omega, segs_lb _ _⟩, leB_app.2 ⟨leB_obb fun h => ⟨lookb_self h _ _, hbl h, rsC_lbs _ _ _⟩, ?_⟩⟩
              simp [leB, look_obb e1, look_obb e0, look, lbBx, lbs, lb, hnn, show 0 < n' by omega]
              cases b <;> simp [olb, lb, hbl]
        have hje : j = ss.length := by simp at hh; omega
        subst hje
        have hs : chainS sumsP ss = true := by
          unfold chainS
          rw [List.all_eq_true]
          intro k hk
          simp at hk
          exact hj3 k (by omega)
        simp only [go_sem, Nat.reduceBEq]
        have hes : ((ss.flatMap Seg.rs).map Rec.enc).length = (ss.flatMap Seg.rs).length := by simp
        have hcs : rsC ss ss.length = ((ss.flatMap Seg.rs).map Rec.enc).flatten := by simp [rsC]
        simp only [look_obb e1, List.take_length]
        rw [← hes, hcs]
        simp only [go_sem, Nat.reduceAdd]
        rw [lenV_olb' (fun h => by have := hb h; omega)]
        simp only [go_sem]
        refine cond_split (fun hh => ?_) (fun hh => ?_)
        · have hj : joinS ss = (zeroS, 2) := by
            unfold joinS
            rw [if_neg hn0, if_neg hv', if_neg (by simp [ht]), if_neg (by simp [hs]), if_pos (by simp at hh ⊢; omega)]
          simp only [go_sem, Nat.reduceAdd, Nat.reduceBEq, hj, look_obb e0, upd_obb e0]
          exact hz 2
        · have hj : joinS ss = (joined ss, 0) := by
            unfold joinS
            rw [if_neg hn0, if_neg hv', if_neg (by simp [ht]), if_neg (by simp [hs]), if_neg (by simp at hh ⊢; omega)]
          simp only [go_sem, Nat.reduceAdd, Nat.reduceBEq, hj, look_obb e0, upd_obb e0, look_obb e1]
          have hj1 : joined ss = ⟨ss[0].from_, lastV Seg.to ss ss.length, ss[0].beg, lastV Seg.end_ ss ss.length, ss.flatMap Seg.rs⟩ := by
            rw [joined_eq hl0]
            simp [lastV, show ¬ ss = [] by intro e; subst e; simp at hl0, show ss.length - 1 < ss.length by omega]
          simp only [List.take_length]
          rw [← hes, frz_rowsb (fun h => lookb_self h _ _) recs_len (by
            intro e he
            obtain ⟨x, _, rfl⟩ := List.mem_map.1 he
            simp [Rec.enc, frz]), hj1]
          refine ⟨?_, avle_tup ⟨avle_agg ⟨avle_refl _, avle_refl _, avle_refl _, avle_refl _, avle_olb b fun h => ?_, trivial⟩, avle_refl _, trivial⟩⟩
          · cases b
            · exact recs_lb _ _
            · simp [lb]
          · have := hb h
            omega
end Go.QL
