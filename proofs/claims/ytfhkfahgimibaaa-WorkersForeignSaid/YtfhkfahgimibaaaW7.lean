/- Contracts: joining segments. -/
import Derived.Test.YtfhkfahgimibaaaW6
namespace Go.QL
open Go.Proofs.Try
theorem all_take {ss : List Seg} {p : Seg → Bool} (h : ∀ j, (hj : j < ss.length) → p ss[j] = true) : ss.all p = true := by
  rw [List.all_eq_true]
  intro x hx
  obtain ⟨j, hj, rfl⟩ := List.mem_iff_getElem.1 hx
  exact h j hj
theorem recsB (ss : List Seg) (h : ss.all validS = true) (h32 : ss.length ≤ 32) (i : Nat) : ((ss.take i).flatMap Seg.rs).length ≤ 160000 := by
  have h1 : ∀ (l : List Seg), l.all validS = true → (l.flatMap Seg.rs).length ≤ l.length * 5000 := by
    intro l hl
    induction l with
    | nil => simp
    | cons x l ih =>
      simp only [List.all_cons, Bool.and_eq_true] at hl
      have := ih hl.2
      have hx : x.rs.length ≤ 5000 := by
        have := hl.1
        simp only [validS, Seg.base, Bool.and_eq_true, decide_eq_true_eq] at this
        omega
      simp only [List.flatMap_cons, List.length_append, List.length_cons]
      omega
  have h2 := h1 (ss.take i) (by
    rw [List.all_eq_true] at h ⊢
    exact fun x hx => h x (List.mem_of_mem_take hx))
  have : (ss.take i).length ≤ ss.length := by simp; omega
  omega
theorem joined_eq {ss : List Seg} (h : 0 < ss.length) : joined ss = ⟨ss[0].from_, ss[ss.length - 1].to, ss[0].beg, ss[ss.length - 1].end_, ss.flatMap Seg.rs⟩ := by
  unfold joined
  rw [List.head?_eq_getElem?, List.getLast?_eq_getElem?, List.getElem?_eq_getElem h, List.getElem?_eq_getElem (show ss.length - 1 < ss.length by omega)]
  rfl
/-- The records of the first segments, as cells. -/
def rsC (ss : List Seg) (i : Nat) : List AV := (((ss.take i).flatMap Seg.rs).map Rec.enc).flatten
theorem recs_len {rs : List Rec} : ∀ e ∈ rs.map Rec.enc, e.length = 11 := fun e he => by
  obtain ⟨x, _, rfl⟩ := List.mem_map.1 he
  rfl
theorem rsC_len (ss : List Seg) (i : Nat) : (rsC ss i).length = ((ss.take i).flatMap Seg.rs).length * 11 := by
  unfold rsC
  rw [flat_len (sz := 11)]
  · simp
  · intro e he
    obtain ⟨x, _, rfl⟩ := List.mem_map.1 he
    rfl
theorem rsC_lbs (ss : List Seg) (i m : Nat) : lbs m (rsC ss i) := by
  refine (lbs_iff _ _).2 fun x hx => ?_
  obtain ⟨y, hy, hx⟩ := List.mem_flatten.1 hx
  obtain ⟨z, _, rfl⟩ := List.mem_map.1 hy
  exact (lbs_iff _ _).1 (z.lbs_enc m) x hx
theorem rsC_succ {ss : List Seg} {i : Nat} (h : i < ss.length) : rsC ss (i + 1) = rsC ss i ++ (ss[i].rs.map Rec.enc).flatten := by
  simp only [rsC, List.take_succ_eq_append_getElem h, List.flatMap_append, List.map_append, List.flatten_append, List.flatMap_cons, List.flatMap_nil, List.append_nil]
theorem rsN_succ {ss : List Seg} {i : Nat} (h : i < ss.length) : ((ss.take (i + 1)).flatMap Seg.rs).length = ((ss.take i).flatMap Seg.rs).length + ss[i].rs.length := by
  simp only [List.take_succ_eq_append_getElem h, List.flatMap_append, List.length_append, List.flatMap_cons, List.flatMap_nil, List.append_nil]
set_option maxRecDepth 100000 in
theorem c24 (ss : List Seg) (hlen : ss.length < 2 ^ 62) : FP prog 24 [.sl (ss.map Seg.enc)] (fun x => x = .tup [.agg (joinS ss).1.enc, .vl (.int .i64 (joinS ss).2)]) := by
  refine FP_sub (post := fun x => avle x (.tup [.agg (joinS ss).1.enc, .vl (.int .i64 (joinS ss).2)])) ?_ (fun x hx => ⟨_, rfl, hx⟩)
  refine fp_start r24 (by simp) ?_
  simp only [go_sem, m24, Nat.reduceBEq, List.length_map]
  have hz : ∀ k : Int, avle (.tup [.agg [.vl (.int .i64 0), .vl (.int .i64 0), .vl (.int .u64 0), .vl (.int .u64 0), .vl (.slice none 0 0)], .vl (.int .i64 k)]) (.tup [.agg zeroS.enc, .vl (.int .i64 k)]) :=
    fun k => avle_tup ⟨avle_agg ⟨avle_refl _, avle_refl _, avle_refl _, avle_refl _, avle_nil, trivial⟩, avle_refl _, trivial⟩
  refine cond_split (fun hc => ?_) (fun hc => ?_)
  · have hj : joinS ss = (zeroS, 1) := by
      unfold joinS
      rw [if_pos (by simp only [Bool.or_eq_true, decide_eq_true_eq] at hc; omega)]
    simp only [go_sem, Nat.reduceAdd, Nat.reduceBEq, hj]
    exact hz 1
  · have hn0 : ¬ (ss.length = 0 ∨ 32 < ss.length) := by simp only [Bool.or_eq_false_iff, decide_eq_false_iff_not] at hc; omega
    have hl0 : 0 < ss.length := by omega
    simp only [go_sem, Nat.reduceBEq, List.length_map]
    refine loop_use (fun m s => ∃ i n : Nat, i ≤ ss.length ∧ 1 ≤ n ∧ m = ss.length - i ∧ (∀ j, j < i → (hj : j < ss.length) → validS ss[j] = true) ∧ s = ⟨[(20, I i), (19, I ss.length), (18, .sl (ss.map Seg.enc)), (2, .ptr 0 0), (0, .sl (ss.map Seg.enc))], [(0, .cs [I 0, I 0, U 0, U 0, .vl (.slice none 0 0)])], n⟩) ss.length _ ⟨0, 1, by omega, by omega, rfl, fun j hj => absurd hj (by omega), rfl⟩ (by simp) ?_ ?_
    · refine le_use ?_
      simp only [go_sem, Nat.reduceBEq]
      simp [segs_lb, lbBx, lbs, lb]
    · rintro m s ⟨i, n, hi, hn, rfl, hok, rfl⟩
      simp only [go_sem, Nat.reduceBEq]
      refine cond_split (fun hd => ?_) (fun hd => ?_)
      · have hlt : i < ss.length := by simp at hd; omega
        have h0n : (0 == n) = false := nb (by omega)
        simp only [go_sem, Nat.reduceAdd, Nat.reduceBEq, Int.toNat_natCast, getD_seg hlt, List.length_map, Seg.enc]
        refine ⟨⟨by omega, by omega⟩, call_eq (by simp [lbs, lb, recs_lb]) (c38 ss[i]) ?_⟩
        simp only [go_sem]
        refine cond_split (fun he => ?_) (fun he => ?_)
        · have hj : joinS ss = (zeroS, 1) := by
            unfold joinS
            rw [if_neg hn0, if_pos]
            rw [List.all_eq_false]
            exact ⟨ss[i], List.getElem_mem hlt, by simpa using he⟩
          simp only [go_sem, Nat.reduceAdd, Nat.reduceBEq, hj, h0n]
          exact hz 1
        · simp only [go_sem, Nat.reduceBEq]
          refine ⟨by unfold InR; omega, ss.length - (i + 1), _, by omega, ⟨i + 1, n + 1, hlt, by omega, rfl, fun j hj hja => ?_, rfl⟩, by simp, ?_⟩
          · by_cases e : j = i
            · subst e
              simpa using he
            · exact hok j (by omega) hja
          · refine le_use ?_
            simp only [go_sem, Nat.reduceBEq, h0n]
            simp [segs_lb, lbBx, lbs, lb]
      · have hge : i = ss.length := by simp at hd; omega
        subst hge
        have hv : ss.all validS = true := all_take fun j hj => hok j hj hj
        have hv' : ¬ ss.all validS = false := by simp [hv]
        simp only [go_sem, Nat.reduceBEq]
        refine call_eq (by simp [lbs, lb, segs_lb]) (c39t ss hlen) ?_
        simp only [go_sem]
        refine cond_split (fun he => ?_) (fun he => ?_)
        · have hj : joinS ss = (zeroS, 18) := by
            unfold joinS
            rw [if_neg hn0, if_neg hv', if_pos (by simpa using he)]
          simp only [go_sem, Nat.reduceAdd, Nat.reduceBEq, hj]
          exact hz 18
        simp only [go_sem, Nat.reduceBEq]
        refine call_eq (by simp [lbs, lb, segs_lb]) (c39s ss hlen) ?_
        simp only [go_sem]
        refine cond_split (fun hf => ?_) (fun hf => ?_)
        · have hj : joinS ss = (zeroS, 11) := by
            unfold joinS
            rw [if_neg hn0, if_neg hv', if_neg (by simpa using he), if_pos (by simpa using hf)]
          simp only [go_sem, Nat.reduceAdd, Nat.reduceBEq, hj]
          exact hz 11
        have hg0 : (ss.map Seg.enc).getD 0 [] = ss[0].enc := getD_seg hl0
        have hg1 : (ss.map Seg.enc).getD ((ss.length : Int) - 1).toNat [] = ss[ss.length - 1].enc := by
          rw [show ((ss.length : Int) - 1).toNat = ss.length - 1 from by omega]
          exact getD_seg (by omega)
        have h0n : (0 == n) = false := nb (by omega)
        simp only [go_sem, Nat.reduceAdd, Nat.reduceBEq, Nat.reduceLeDiff, List.length_map, hg0, hg1, Int.toNat_zero, Seg.enc]
        refine ⟨by omega, by unfold InR; omega, by omega, by omega, by unfold InR; omega, by omega, ?_⟩
        refine loop_use (fun m s => ∃ (i n' l : Nat) (b : Bool), i ≤ ss.length ∧ n < l ∧ n < n' ∧ (l < n' ∨ n' + 5 < l) ∧ (b = false → l < n') ∧ (b = true → i = 0) ∧ m = ss.length - i ∧ s = ⟨[(62, I i), (61, I ss.length), (60, .sl (ss.map Seg.enc)), (6, .ptr n 0), (2, .ptr 0 0)],
          obb b l (rsC ss i) ++ [(n, .cs [I ss[0].from_, I ss[ss.length - 1].to, U ss[0].beg, U ss[ss.length - 1].end_, olb b 11 l ((ss.take i).flatMap Seg.rs).length]), (0, .cs [I 0, I 0, U 0, U 0, .vl (.slice none 0 0)])], n'⟩) ss.length _ ⟨0, n + 1, n + 100, true, by omega, by omega, by omega, by omega, by simp, by simp, rfl, rfl⟩ (by simp) ?_ ?_
        · refine le_use ?_
          simp only [go_sem, Nat.reduceBEq, obb_t, olb_t, h0n]
          simp [segs_lb, lbBx, lbs, lb]
        · rintro m s ⟨i, n', l, b, hi', hnl, hnn, hln, hbl, hb, rfl, rfl⟩
          simp only [go_sem, Nat.reduceBEq]
          refine cond_split (fun hg => ?_) (fun hg => ?_)
          · have hlt : i < ss.length := by simp at hg; omega
            have e1 : (n == n') = false := nb (by omega)
            have e2 : (n == l) = false := nb (by omega)
            have e3 : (0 == l) = false := nb (by omega)
            have e4 : (l == n') = false := nb (by omega)
            have e5 : (n' == l) = false := nb (by omega)
            simp only [go_sem, Nat.reduceAdd, Nat.reduceBEq, Int.toNat_natCast, getD_seg hlt, List.length_map, Seg.enc, look_obb e2, e1]
            have hB := recsB ss hv (by omega) (i + 1)
            rw [rsN_succ hlt] at hB
            refine ⟨by omega, fun e he => ?_, app_ownb (rsC_len ss i) (fun h => ?_) (fun h => ?_) (by unfold maxLen; omega) (by omega) ?_⟩
            · obtain ⟨x, _, rfl⟩ := List.mem_map.1 he
              rfl
            · have := hb h
              subst this
              simp [rsC]
            · simp only [look_miss, e4, lookb_self h]
            have hno : ∀ x, look [(n, Bx.cs [I ss[0].from_, I ss[ss.length - 1].to, U ss[0].beg, U ss[ss.length - 1].end_, olb b 11 l (List.flatMap Seg.rs (List.take i ss)).length]), (0, Bx.cs [I 0, I 0, U 0, U 0, AV.vl (Value.slice none 0 0)])] l ≠ some x := by
              intro x
              simp [look, show ¬ l = n by omega, show ¬ l = 0 by omega]
            have e6 : (n == n' + 1) = false := nb (by omega)
            have e7 : (0 == n' + 1) = false := nb (by omega)
            have e8 : (0 == n') = false := nb (by omega)
            simp only [go_sem, Nat.reduceAdd, Nat.reduceBEq, erab_cons e4, erab_obb hno, e1, e6]
            refine ⟨by unfold InR; omega, ss.length - (i + 1), _, by omega, ⟨i + 1, n' + 1 + 1, n' + 1, false, hlt, by omega, by omega, by omega, by omega, by simp, rfl, rfl⟩, by simp, ?_⟩
            refine le_use ?_
            rw [rsC_succ hlt, rsN_succ hlt]
            simp only [go_sem, Nat.reduceBEq, e1, e6, e7, e8, h0n, olb_f, obb_f]
            refine ⟨⟨by simp, segs_lb _ _, by simp only [lb]; omega, by simp only [lb]; omega⟩, by omega, lbs_app.2 ⟨rsC_lbs _ _ _, ?_⟩, by omega, by simp [lbBx, lbs, lb], by omega, by simp [lbBx, lbs, lb]⟩
            exact (lbs_app.1 (rsC_succ hlt ▸ rsC_lbs ss (i + 1) _)).2
          · have hge : i = ss.length := by simp at hg; omega
            subst hge
            have e2 : (n == l) = false := nb (by omega)
            have e3 : (0 == l) = false := nb (by omega)
            have hes : ((ss.flatMap Seg.rs).map Rec.enc).length = (ss.flatMap Seg.rs).length := by simp
            have hcs : rsC ss ss.length = ((ss.flatMap Seg.rs).map Rec.enc).flatten := by simp [rsC]
            simp only [go_sem, Nat.reduceAdd, Nat.reduceBEq, look_obb e2, List.take_length]
            rw [← hes, hcs, lenV_olb' (fun h => by have := hb h; omega)]
            simp only [go_sem]
            refine cond_split (fun hh => ?_) (fun hh => ?_)
            · have hj : joinS ss = (zeroS, 2) := by
                unfold joinS
                rw [if_neg hn0, if_neg hv', if_neg (by simpa using he), if_neg (by simpa using hf), if_pos (by simp at hh ⊢; omega)]
              simp only [go_sem, Nat.reduceAdd, Nat.reduceBEq, hj, look_obb e3, upd_obb e3, h0n]
              exact hz 2
            · have hj : joinS ss = (joined ss, 0) := by
                unfold joinS
                rw [if_neg hn0, if_neg hv', if_neg (by simpa using he), if_neg (by simpa using hf), if_neg (by simp at hh ⊢; omega)]
              simp only [go_sem, Nat.reduceAdd, Nat.reduceBEq, hj, look_obb e3, upd_obb e3, look_obb e2, h0n]
              have hj1 : joined ss = ⟨ss[0].from_, ss[ss.length - 1].to, ss[0].beg, ss[ss.length - 1].end_, ss.flatMap Seg.rs⟩ := joined_eq hl0
              rw [frz_rowsb (fun h => lookb_self h _ _) recs_len (by
                intro e he
                obtain ⟨x, _, rfl⟩ := List.mem_map.1 he
                simp [Rec.enc, frz]), hj1]
              refine ⟨?_, avle_tup ⟨avle_agg ⟨avle_refl _, avle_refl _, avle_refl _, avle_refl _, avle_olb b fun h => ?_, trivial⟩, avle_refl _, trivial⟩⟩
              · cases b
                · exact recs_lb _ _
                · simp [lb]
              · have := hb h
                omega
end Go.QL
