/- Contract: the reference's Merge. -/
import Derived.Test.YtfhkfahgimibaaaW18
namespace Go.QL
open Go.Proofs.Try
set_option maxRecDepth 100000 in
theorem c13 (ts : List Tsk) (ss : List Seg) (hts0 : ts.length ≤ 9223372036854775807) : FP prog 13 [.sl (ts.map Tsk.enc), .sl (ss.map Seg.enc)] (fun x => avle x (.tup [.agg (mergeS ts ss).1.enc, .vl (.int .i64 (mergeS ts ss).2)])) := by
  refine fp_start r13 (by simp) ?_
  simp only [go_sem, m13, Nat.reduceAdd, Nat.reduceBEq]
  have hz : ∀ k : Int, avle (.tup [.agg [.vl (.int .i64 0), .vl (.int .i64 0), .vl (.int .u64 0), .vl (.int .u64 0), .vl (.slice none 0 0)], .vl (.int .i64 k)]) (.tup [.agg zeroS.enc, .vl (.int .i64 k)]) :=
    fun k => avle_tup ⟨avle_agg ⟨avle_refl _, avle_refl _, avle_refl _, avle_refl _, avle_nil, trivial⟩, avle_refl _, trivial⟩
  refine call_eq (by simp [lbs, lb, tsks_lb]) (c30 ts hts0) ?_
  simp only [go_sem, Nat.reduceBEq, List.length_map]
  refine cond_split (fun hc => ?_) (fun hc => ?_)
  · have hj : mergeS ts ss = (zeroS, 1) := by
      unfold mergeS
      rw [if_pos ?_]
      simp at hc
      rcases hc with hc | hc
      · exact .inl hc
      · exact .inr (by omega)
    simp only [go_sem, Nat.reduceAdd, Nat.reduceBEq, hj]
    exact hz 1
  · have hlist : listS ts = true := by
      simp at hc
      exact hc.1
    have hts : ts.length < 2 ^ 62 := by
      have := (listS_ok hlist).2.2
      omega
    have h32 : ss.length ≤ 32 := by
      simp at hc
      omega
    have ht32 := (listS_ok hlist).2.2
    have hn1 : ¬ (listS ts = false ∨ 32 < ss.length) := by
      rw [hlist]
      simp
      exact h32
    simp only [go_sem]
    refine loop_use (fun m s => ∃ i : Nat, i ≤ ss.length ∧ m = ss.length - i ∧ (∀ j, j < i → (hj : j < ss.length) → validS ss[j] = true) ∧ s = ⟨[(7, I i), (4, .ptr 0 0), (0, .sl (ts.map Tsk.enc)), (1, .sl (ss.map Seg.enc))], [(0, .cs [I 0, I 0, U 0, U 0, .vl (.slice none 0 0)])], 1⟩) ss.length _ ⟨0, by omega, rfl, fun j hj => absurd hj (by omega), rfl⟩ (by simp) ?_ ?_
    · refine le_use ?_
      simp only [go_sem, Nat.reduceBEq]
      simp [segs_lb, tsks_lb, lbBx, lbs, lb]
    · rintro m s ⟨i, hi, rfl, hok, rfl⟩
      simp only [go_sem, Nat.reduceBEq]
      refine cond_split (fun hd => ?_) (fun hd => ?_)
      · have hlt : i < ss.length := by simp at hd; omega
        simp only [go_sem, Nat.reduceAdd, Nat.reduceBEq, Int.toNat_natCast, getD_seg hlt, List.length_map, Seg.enc]
        refine ⟨by omega, call_eq (by simp [lbs, lb, recs_lb]) (c31 ss[i]) ?_⟩
        simp only [go_sem]
        refine cond_split (fun he => ?_) (fun he => ?_)
        · have hj : mergeS ts ss = (zeroS, 1) := by
            unfold mergeS
            rw [if_neg hn1, if_pos (all_no hlt (by simpa using he))]
          simp only [go_sem, Nat.reduceAdd, Nat.reduceBEq, hj]
          exact hz 1
        · simp only [go_sem, Nat.reduceBEq]
          refine ⟨by unfold InR; omega, ss.length - (i + 1), _, by omega, ⟨i + 1, hlt, rfl, fun j hj hja => ?_, rfl⟩, by simp, ?_⟩
          · by_cases e : j = i
            · subst e
              simpa using he
            · exact hok j (by omega) hja
          · refine le_use ?_
            simp only [go_sem, Nat.reduceBEq]
            simp [segs_lb, tsks_lb, lbBx, lbs, lb]
      · have hge : i = ss.length := by simp at hd; omega
        subst hge
        have hv : ss.all validS = true := all_take fun j hj => hok j hj hj
        have hv' : ¬ ss.all validS = false := by simp [hv]
        simp only [go_sem, Nat.reduceAdd, Nat.reduceBEq, List.length_map, Int.toNat_natCast]
        refine ⟨by omega, by omega, ?_⟩
        refine loop_use (fun m s => ∃ i : Nat, i ≤ ss.length ∧ m = ss.length - i ∧ (∀ j, j < i → (hj : j < ss.length) → (belS ts ss[j]).isSome = true) ∧ s = ⟨[(11, I i), (10, .osl 5 2 0 ts.length ts.length), (9, .osl 1 1 0 ts.length ts.length), (4, .ptr 0 0), (0, .sl (ts.map Tsk.enc)), (1, .sl (ss.map Seg.enc))],
          [(2, .cs (eC ts ss i).flatten), (1, .cs (mC ts ss i)), (0, .cs [I 0, I 0, U 0, U 0, .vl (.slice none 0 0)])], 3⟩) ss.length _ ⟨0, by omega, rfl, fun j hj => absurd hj (by omega), rfl⟩ (by simp) ?_ ?_
        · refine le_use ?_
          rw [mC_zero, eC_zero]
          simp only [go_sem, Nat.reduceBEq, zcells]
          simp [segs_lb, tsks_lb, lbBx, lb, zC]
          exact ⟨lbs_flat fun e he => by rw [List.eq_of_mem_replicate he]; simp [lbs, lb], (lbs_iff _ _).2 fun x hx => by rw [List.eq_of_mem_replicate hx]; simp [lb], by simp [lbs, lb]⟩
        · rintro m s ⟨i, hi', rfl, hbl, rfl⟩
          simp only [go_sem, Nat.reduceBEq]
          refine cond_split (fun hg => ?_) (fun hg => ?_)
          · have hlt : i < ss.length := by simp at hg; omega
            simp only [go_sem, Nat.reduceBEq, Int.toNat_natCast, getD_seg hlt, List.length_map, Seg.len_enc]
            rw [show List.take 5 ss[i].enc = ss[i].enc from rfl]
            refine ⟨by omega, call_eq (by simp [lbs, lb, tsks_lb, Seg.lbs_enc]) (c32 ts ss[i] hts) ?_⟩
            simp only [go_sem]
            cases hbs : belS ts ss[i] with
            | none =>
              have hj : mergeS ts ss = (zeroS, 18) := by
                unfold mergeS
                rw [if_neg hn1, if_neg hv', if_pos (all_isSome_no hlt (by simp [hbs]))]
              refine cond_split (fun _ => ?_) (fun h => ?_)
              · simp only [go_sem, Nat.reduceAdd, Nat.reduceBEq, hj]
                exact hz 18
              · simp at h
            | some k =>
              have hkl : k < ts.length := (List.findIdx?_eq_some_iff_getElem.1 hbs).1
              have hk : plcS ts ss[i] = k := by simp [plcS, hbs]
              refine cond_split (fun h => ?_) (fun _ => ?_)
              · simp at h
                omega
              simp only [go_sem, Nat.reduceBEq, Int.toNat_natCast, mC_len, Nat.mul_one, Nat.zero_add]
              simp only [mC_get hkl, go_sem, Nat.reduceBEq, Int.toNat_natCast, getD_seg hlt, List.length_map, Seg.len_enc, mC_len, Nat.mul_one, Nat.zero_add]
              have hcl : cntS ts (ss.take i) k ≤ 32 := Nat.le_trans List.countP_le_length (by simp; omega)
              have hel : (eC ts ss i).flatten.length = ts.length * 5 := by rw [flat_len fun e he => (eC_each ts ss i e he).1, eC_len]
              rw [show List.take 5 ss[i].enc = ss[i].enc from rfl, hel]
              refine ⟨by omega, by omega, by unfold InR; omega, by omega, by omega, by omega, by omega, ⟨rfl, by omega, by simp [Seg.enc, AV.isCell, Value.oneCell']⟩, by unfold InR; omega, ss.length - (i + 1), _, by omega, ⟨i + 1, hlt, rfl, fun j hj hja => ?_, rfl⟩, by simp, ?_⟩
              · by_cases e : j = i
                · subst e
                  simp [hbs]
                · exact hbl j (by omega) hja
              · refine le_use ?_
                rw [eC_succ hlt hk hkl, ← flat_set (fun e he => (eC_each ts ss i e he).1) (by rw [eC_len]; exact hkl), ← mC_succ hlt hk hkl]
                simp only [go_sem, Nat.reduceBEq]
                refine ⟨⟨by simp, by simp [lb], by simp [lb], by simp [lb], tsks_lb _ _, segs_lb _ _⟩, by omega, ?_, by omega, ?_, by omega, by simp [lbBx, lbs, lb]⟩
                · show lbs 3 _
                  rw [flat_set (fun e he => (eC_each ts ss i e he).1) (by rw [eC_len]; exact hkl), ← eC_succ hlt hk hkl]
                  exact lbs_flat fun e he => (eC_each ts ss _ e he).2.1 3
                · show lbs 3 _
                  rw [mC_succ hlt hk hkl]
                  exact (lbs_iff _ _).2 fun x hx => by
                    obtain ⟨k, _, rfl⟩ := List.mem_map.1 hx
                    simp [lb]
          · have hge : i = ss.length := by simp at hg; omega
            subst hge
            have hbs : ∀ s ∈ ss, (belS ts s).isSome = true := fun s hs => by
              obtain ⟨j, hj, rfl⟩ := List.mem_iff_getElem.1 hs
              exact hbl j hj hj
            have hb' : ¬ (ss.all fun s => (belS ts s).isSome) = false := by
              have : (ss.all fun s => (belS ts s).isSome) = true := List.all_eq_true.2 hbs
              rw [this]
              simp
            have hkb : ∀ s ∈ ss, 0 ≤ plcS ts s ∧ plcS ts s < ts.length := fun s hs => plcS_lt (hbs s hs)
            have hmlb : ∀ m, lbs m (mC ts ss ss.length) := fun m => (lbs_iff _ _).2 fun x hx => by
              obtain ⟨k, _, rfl⟩ := List.mem_map.1 hx
              simp [lb]
            have helb : ∀ m, lbs m (eC ts ss ss.length).flatten := fun m => lbs_flat fun e he => (eC_each ts ss _ e he).2.1 m
            have hcl : ∀ k, cntS ts ss k ≤ 32 := fun k => Nat.le_trans List.countP_le_length h32
            simp only [go_sem]
            refine loop_use (fun m s => ∃ k : Nat, k ≤ ts.length ∧ m = ts.length - k ∧ (∀ j, j < k → cntS ts ss j ≤ 1) ∧ s = ⟨[(13, I k), (10, .osl 5 2 0 ts.length ts.length), (9, .osl 1 1 0 ts.length ts.length), (4, .ptr 0 0)],
              [(2, .cs (eC ts ss ss.length).flatten), (1, .cs (mC ts ss ss.length)), (0, .cs [I 0, I 0, U 0, U 0, .vl (.slice none 0 0)])], 3⟩) ts.length _ ⟨0, by omega, rfl, fun j hj => absurd hj (by omega), rfl⟩ (by simp) ?_ ?_
            · refine le_use ?_
              simp only [go_sem, Nat.reduceBEq]
              simp [lbBx, lb, hmlb, helb, lbs]
            · rintro m s ⟨k, hk', rfl, hone, rfl⟩
              simp only [go_sem, Nat.reduceBEq]
              refine cond_split (fun hg4 => ?_) (fun hg4 => ?_)
              · have hkl : k < ts.length := by simp at hg4; omega
                simp only [mC_get hkl, List.take_length, go_sem, Nat.reduceBEq, Int.toNat_natCast, mC_len, Nat.mul_one, Nat.zero_add]
                refine ⟨by omega, by omega, ?_⟩
                refine cond_split (fun he => ?_) (fun he => ?_)
                · have hnd : ¬ (ss.map (plcS ts)).Nodup := fun h => by
                    have := cnt_le (k := k) h
                    simp at he
                    omega
                  have hj : mergeS ts ss = (zeroS, 5) := by
                    unfold mergeS
                    rw [if_neg hn1, if_neg hv', if_neg hb', if_pos hnd]
                  simp only [go_sem, Nat.reduceAdd, Nat.reduceBEq, hj]
                  exact hz 5
                · simp only [go_sem, Nat.reduceBEq]
                  refine ⟨by unfold InR; omega, ts.length - (k + 1), _, by omega, ⟨k + 1, hkl, rfl, fun j hj => ?_, rfl⟩, by simp, ?_⟩
                  · by_cases e : j = k
                    · subst e
                      simp at he
                      omega
                    · exact hone j (by omega)
                  · refine le_use ?_
                    simp only [go_sem, Nat.reduceBEq]
                    simp [lbBx, lb, hmlb, helb, lbs]
              · have hnd : (ss.map (plcS ts)).Nodup := nodup_cnt hkb fun j hj => hone j (by simp at hg4; omega)
                have hnd' : ¬ ¬ (ss.map (plcS ts)).Nodup := fun h => h hnd
                simp only [go_sem]
                refine loop_use (fun m s => ∃ k : Nat, k ≤ ts.length ∧ m = ts.length - k ∧ (∀ j, j < k → cntS ts ss j ≠ 0) ∧ s = ⟨[(14, I k), (10, .osl 5 2 0 ts.length ts.length), (9, .osl 1 1 0 ts.length ts.length), (4, .ptr 0 0)],
                  [(2, .cs (eC ts ss ss.length).flatten), (1, .cs (mC ts ss ss.length)), (0, .cs [I 0, I 0, U 0, U 0, .vl (.slice none 0 0)])], 3⟩) ts.length _ ⟨0, by omega, rfl, fun j hj => absurd hj (by omega), rfl⟩ (by simp) ?_ ?_
                · refine le_use ?_
                  simp only [go_sem, Nat.reduceBEq]
                  simp [lbBx, lb, hmlb, helb, lbs]
                · rintro m s ⟨k2, hk2, rfl, hfull, rfl⟩
                  simp only [go_sem, Nat.reduceBEq]
                  refine cond_split (fun hg5 => ?_) (fun hg5 => ?_)
                  · have hkl : k2 < ts.length := by simp at hg5; omega
                    simp only [mC_get hkl, List.take_length, go_sem, Nat.reduceBEq, Int.toNat_natCast, mC_len, Nat.mul_one, Nat.zero_add]
                    refine ⟨by omega, by omega, ?_⟩
                    refine cond_split (fun he => ?_) (fun he => ?_)
                    · have hj : mergeS ts ss = (zeroS, 4) := by
                        unfold mergeS
                        rw [if_neg hn1, if_neg hv', if_neg hb', if_neg hnd', if_pos (missing_lt hkb hnd hkl (by simp at he; omega))]
                      simp only [go_sem, Nat.reduceAdd, Nat.reduceBEq, hj]
                      exact hz 4
                    · simp only [go_sem, Nat.reduceBEq]
                      refine ⟨by unfold InR; omega, ts.length - (k2 + 1), _, by omega, ⟨k2 + 1, hkl, rfl, fun j hj => ?_, rfl⟩, by simp, ?_⟩
                      · by_cases e : j = k2
                        · subst e
                          simp at he
                          omega
                        · exact hfull j (by omega)
                      · refine le_use ?_
                        simp only [go_sem, Nat.reduceBEq]
                        simp [lbBx, lb, hmlb, helb, lbs]
                  · have hall : ∀ j, j < ts.length → cntS ts ss j ≠ 0 := fun j hj => hfull j (by simp at hg5; omega)
                    have hj : mergeS ts ss = joinS (placed ts ss) := by
                      unfold mergeS
                      rw [if_neg hn1, if_neg hv', if_neg hb', if_neg hnd', if_neg (by have := full_ge hall; omega)]
                    simp only [go_sem, Nat.reduceBEq]
                    refine callF_eq [2] [.sl ((placed ts ss).map Seg.enc)] ?_ (by simp [lbs, lb, segs_lb]) (c33 (placed ts ss) (by rw [placed_len]; exact hts)) ?_
                    · have ho : AV.osl 5 2 0 ts.length ts.length = olst 5 2 (eC ts ss ss.length).length := by
                        rw [eC_len]
                        obtain ⟨k, hk⟩ : ∃ k, ts.length = k + 1 := ⟨ts.length - 1, by have := (listS_ok hlist).2.1; omega⟩
                        rw [hk, olst_pos]
                      have hkp : keepL [2] [(2, Bx.cs (eC ts ss ss.length).flatten), (1, Bx.cs (mC ts ss ss.length)), (0, Bx.cs [I 0, I 0, U 0, U 0, AV.vl (Value.slice none 0 0)])] = [(2, Bx.cs (eC ts ss ss.length).flatten)] := rfl
                      rw [hkp, ho, List.map_cons, List.map_nil, frz_rows (fun _ => by simp [look]) (fun e he => (eC_each ts ss _ e he).1) (fun e he => (eC_each ts ss _ e he).2.2 _ _), if_neg (by rw [eC_len]; have := (listS_ok hlist).2.1; omega), eC_full hnd hall]
                    have hdp : dropL [2] [(2, Bx.cs (eC ts ss ss.length).flatten), (1, Bx.cs (mC ts ss ss.length)), (0, Bx.cs [I 0, I 0, U 0, U 0, AV.vl (Value.slice none 0 0)])] = [(1, Bx.cs (mC ts ss ss.length)), (0, Bx.cs [I 0, I 0, U 0, U 0, AV.vl (Value.slice none 0 0)])] := rfl
                    simp only [go_sem, Nat.reduceAdd, Nat.reduceBEq, hdp, hj]
                    rw [seg_frz]
                    exact ⟨by omega, by omega, ⟨rfl, by simp [Seg.enc, AV.isCell, Value.oneCell']⟩, Nat.le_refl 5, Seg.lbs_enc 0 _, avle_refl _⟩
end Go.QL
