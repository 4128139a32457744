/- Contract: workers.Merge. -/
import Derived.Test.YtfhkfahgimibaaaW16
namespace Go.QL
open Go.Proofs.Try
theorem FC_low {P : Program} {f : FuncId} {N : Nat} {args : List AV} {σ σ1 : List (Nat × Bx)} {N' : Nat} {r0 : AV} (h : FC P f N args σ N' (fun r σ' => r = r0 ∧ σ' = σ1)) (hr : lb N r0) (hσ : ∀ l x, look σ1 l = some x → l < N ∧ lbBx N x) : FC P f N args σ N (fun r σ' => r = r0 ∧ σ' = σ1) := by
  intro w M ρ vs h1 h2 h3 h4
  refine (h w M ρ vs h1 h2 h3 h4).mono ?_
  rintro e w' ⟨v, ρ', r, σ', a1, ⟨rfl, rfl⟩, a3, a4, a5, a6, a7, a8⟩
  refine ⟨v, ρ', r, σ', a1, ⟨rfl, rfl⟩, a3, fun l x hl => ⟨(hσ l x hl).1, (a4 l x hl).2⟩, a5, a6, a7, fun ρ'' hρ => ?_⟩
  have h8 := a8 (fun l => if l < N then ρ'' l else ρ' l) fun l _ => by
    by_cases hl : l < N
    · simp only [hl, if_true]
      exact hρ l hl
    · simp only [hl, if_false]
  have ag : ∀ l, l < N → ρ'' l = (fun l => if l < N then ρ'' l else ρ' l) l := fun l hl => by simp only [hl, if_true]
  exact ⟨Den.agree ag r v hr h8.1, fun l x hl => BxOK.agree ag (hσ l x hl).1 (hσ l x hl).2 (h8.2 l x hl)⟩
theorem c26r (ts : List Tsk) (s : Seg) : FC prog 26 2 [.agg s.enc, .ptr 1 0] (pσ ts) 2 (fun r σ => r = I (plcS ts s) ∧ σ = pσ ts) := FC_low (c26 ts s) (by simp [lb]) (by
  intro l x h
  simp only [pσ, look] at h
  repeat' split at h
  · cases h; simp [lbBx, lbs, lb]; omega
  · cases h; simp [lbBx, plc_lbs]; omega
  · cases h)
theorem seg_frz (σ : List (Nat × Bx)) (d : Nat) (s : Seg) : List.map (frz σ d) (List.take 5 s.enc) = s.enc := by
  cases d <;> simp [Seg.enc, frz]
theorem endPlc (s : St) (ts : List Tsk) : endSt s [] (ts.length + 1) [] [(0, .mp (plcF 0 ts))] = ⟨s.t, (s.n, .mp (plcF 0 ts)) :: s.σ, s.n + (ts.length + 1)⟩ := by
  simp [endSt, nm, List.range'_succ, renBx, plcF_ren, dropL_nil]
theorem renPlc (s : St) (k : Nat) : ren (nm s [] (k + 1)) (.mp 0) = .mp s.n := by
  simp [nm, List.range'_succ, ren]
theorem all_isSome_no {ts : List Tsk} {ss : List Seg} {i : Nat} (h : i < ss.length) (hn : (belS ts ss[i]).isSome = false) : (ss.all fun s => (belS ts s).isSome) = false := by
  rw [List.all_eq_false]
  exact ⟨ss[i], List.getElem_mem h, by simp [hn]⟩
set_option maxRecDepth 100000 in
theorem c12 (ts : List Tsk) (ss : List Seg) (hts0 : ts.length ≤ 9223372036854775807) : FP prog 12 [.sl (ts.map Tsk.enc), .sl (ss.map Seg.enc)] (fun x => avle x (.tup [.agg (mergeS ts ss).1.enc, .vl (.int .i64 (mergeS ts ss).2)])) := by
  refine fp_start r12 (by simp) ?_
  simp only [go_sem, m12, Nat.reduceAdd, Nat.reduceBEq]
  have hz : ∀ k : Int, avle (.tup [.agg [.vl (.int .i64 0), .vl (.int .i64 0), .vl (.int .u64 0), .vl (.int .u64 0), .vl (.slice none 0 0)], .vl (.int .i64 k)]) (.tup [.agg zeroS.enc, .vl (.int .i64 k)]) :=
    fun k => avle_tup ⟨avle_agg ⟨avle_refl _, avle_refl _, avle_refl _, avle_refl _, avle_nil, trivial⟩, avle_refl _, trivial⟩
  refine call_eq (by simp [lbs, lb, tsks_lb]) (c23 ts hts0) ?_
  simp only [go_sem, Nat.reduceBEq, List.length_map]
  refine cond_split (fun hc => ?_) (fun hc => ?_)
  · have hj : mergeS ts ss = (zeroS, 1) := by
      unfold mergeS
      rw [if_pos ?_]
      simp at hc
      rcases hc with hc | hc
      · exact .inl hc
      · exact .inr (by omega)
    simp only [go_sem, Nat.reduceAdd, Nat.reduceBEq, hj]
    exact hz 1
  · have hlist : listS ts = true := by
      simp at hc
      exact hc.1
    have hts : ts.length < 2 ^ 62 := by
      have := (listS_ok hlist).2.2
      omega
    have h32 : ss.length ≤ 32 := by
      simp at hc
      omega
    have hn1 : ¬ (listS ts = false ∨ 32 < ss.length) := by
      rw [hlist]
      simp
      exact h32
    simp only [go_sem, Nat.reduceBEq, List.length_map]
    refine loop_use (fun m s => ∃ i n : Nat, i ≤ ss.length ∧ 1 ≤ n ∧ m = ss.length - i ∧ (∀ j, j < i → (hj : j < ss.length) → validS ss[j] = true) ∧ s = ⟨[(29, I i), (28, I ss.length), (27, .sl (ss.map Seg.enc)), (4, .ptr 0 0), (0, .sl (ts.map Tsk.enc)), (1, .sl (ss.map Seg.enc))], [(0, .cs [I 0, I 0, U 0, U 0, .vl (.slice none 0 0)])], n⟩) ss.length _ ⟨0, 1, by omega, by omega, rfl, fun j hj => absurd hj (by omega), rfl⟩ (by simp) ?_ ?_
    · refine le_use ?_
      simp only [go_sem, Nat.reduceBEq]
      simp [segs_lb, tsks_lb, lbBx, lbs, lb]
    · rintro m s ⟨i, n, hi, hn, rfl, hok, rfl⟩
      simp only [go_sem, Nat.reduceBEq]
      refine cond_split (fun hd => ?_) (fun hd => ?_)
      · have hlt : i < ss.length := by simp at hd; omega
        have h0n : (0 == n) = false := nb (by omega)
        have hn0 : (n == 0) = false := nb (by omega)
        have hnn : (n == n + 1) = false := nb (by omega)
        have hn10 : (n + 1 == 0) = false := nb (by omega)
        have hn1n : (n + 1 == n) = false := nb (by omega)
        simp only [go_sem, Nat.reduceAdd, Nat.reduceBEq, Int.toNat_natCast, getD_seg hlt, List.length_map, Seg.enc]
        refine ⟨by omega, ?_⟩
        refine callF_eq [n + 1] [.sl ([ss[i]].map Seg.enc)] ?_ ⟨segs_lb 0 [ss[i]], trivial⟩ (c24 [ss[i]] (by simp)) ?_
        · simp [keepL, frz, look, chunks, Seg.enc]
        have ed : dropL [n + 1] [(n + 1, Bx.cs [I ss[i].from_, I ss[i].to, U ss[i].beg, U ss[i].end_, AV.sl (List.map Rec.enc ss[i].rs)]), (n, Bx.cs [I ss[i].from_, I ss[i].to, U ss[i].beg, U ss[i].end_, AV.sl (List.map Rec.enc ss[i].rs)]), (0, Bx.cs [I 0, I 0, U 0, U 0, AV.vl (Value.slice none 0 0)])] = [(n, Bx.cs [I ss[i].from_, I ss[i].to, U ss[i].beg, U ss[i].end_, AV.sl (List.map Rec.enc ss[i].rs)]), (0, Bx.cs [I 0, I 0, U 0, U 0, AV.vl (Value.slice none 0 0)])] := by
          simp [dropL]
        simp only [go_sem, Nat.reduceAdd, Nat.reduceBEq, ed]
        refine ⟨by omega, by omega, ⟨rfl, by simp [Seg.enc, AV.isCell, Value.oneCell']⟩, ?_⟩
        have h0n1 : (0 == n + 1) = false := nb (by omega)
        have h0n2 : (0 == n + 1 + 1) = false := nb (by omega)
        refine cond_split (fun he => ?_) (fun he => ?_)
        · have hvf : validS ss[i] = false := by
            cases hv : validS ss[i] with
            | false => rfl
            | true =>
              rw [join_one hv] at he
              simp at he
          have hj : mergeS ts ss = (zeroS, 1) := by
            unfold mergeS
            rw [if_neg hn1, if_pos (all_no hlt hvf)]
          simp only [go_sem, Nat.reduceAdd, Nat.reduceBEq, hj, h0n, h0n2]
          exact hz 1
        · have hvt : validS ss[i] = true := by
            cases hv : validS ss[i] with
            | true => rfl
            | false =>
              rw [join_one_no hv] at he
              simp at he
          simp only [go_sem, Nat.reduceBEq]
          refine ⟨by unfold InR; omega, ss.length - (i + 1), _, by omega, ⟨i + 1, n + 1 + 1 + 1, hlt, by omega, rfl, fun j hj hja => ?_, rfl⟩, by simp, ?_⟩
          · by_cases e : j = i
            · subst e
              exact hvt
            · exact hok j (by omega) hja
          · refine le_use ?_
            simp only [go_sem, Nat.reduceBEq, h0n, h0n2]
            simp [segs_lb, tsks_lb, lbBx, lbs, lb]
      · have hge : i = ss.length := by simp at hd; omega
        subst hge
        have hv : ss.all validS = true := all_take fun j hj => hok j hj hj
        have hv' : ¬ ss.all validS = false := by simp [hv]
        simp only [go_sem, Nat.reduceBEq]
        refine callB_use [] [.sl (ts.map Tsk.enc)] [] (ts.length + 1) _ (by simp [rens, ren, renEs_lb _ _ (tsks_lb 0 ts)]) (by simp [lbs, lb, tsks_lb]) (by simp) (by simp) (by simp) (by simp [bxs]) (c25 ts hts (list_nodup hlist)) ?_
        rintro r σ' ⟨rfl, rfl⟩
        refine ⟨by simp [lb], by simp [bxl, lbBx, plc_lbs], ?_⟩
        rw [endPlc, renPlc]
        generalize hA : n + (ts.length + 1) = A
        have hnA : n < A := by omega
        have hAn : (n == A) = false := nb (by omega)
        have hAA : (A == A + 1) = false := nb (by omega)
        simp only [go_sem, Nat.reduceBEq, List.length_map]
        refine loop_use (fun m s => ∃ i n' : Nat, i ≤ ss.length ∧ A + 2 ≤ n' ∧ m = ss.length - i ∧ (∀ j, j < i → (hj : j < ss.length) → (belS ts ss[j]).isSome = true) ∧ s = ⟨[(48, I i), (47, I ss.length), (46, .sl (ss.map Seg.enc)), (11, .ptr (A + 1) 0), (10, .ptr A 0), (4, .ptr 0 0), (0, .sl (ts.map Tsk.enc)), (1, .sl (ss.map Seg.enc))],
          [(A + 1, .cs [.fn (.func 26) [] [.ptr A 0]]), (A, .cs [.mp n]), (n, .mp (plcF 0 ts)), (0, .cs [I 0, I 0, U 0, U 0, .vl (.slice none 0 0)])], n'⟩) ss.length _ ⟨0, A + 2, by omega, by omega, rfl, fun j hj => absurd hj (by omega), rfl⟩ (by simp) ?_ ?_
        · refine le_use ?_
          have h0 : (0 == A + 1) = false := nb (by omega)
          have h1 : (0 == A) = false := nb (by omega)
          have h2 : (0 == n) = false := nb (by omega)
          have h3 : (n == A + 1) = false := nb (by omega)
          simp only [go_sem, Nat.reduceBEq, h0, h1, h2, h3, hAA, hAn]
          simp [segs_lb, tsks_lb, lbBx, lbs, lb, plc_lbs]
          omega
        · rintro m s ⟨i, n', hi', hn', rfl, hbl, rfl⟩
          have h0 : (0 == A + 1) = false := nb (by omega)
          have h1 : (0 == A) = false := nb (by omega)
          have h2 : (0 == n) = false := nb (by omega)
          have h3 : (n == A + 1) = false := nb (by omega)
          have h4 : (0 == n') = false := nb (by omega)
          have h5 : (A == n') = false := nb (by omega)
          have h6 : (n == n') = false := nb (by omega)
          have h7 : (A + 1 == n') = false := nb (by omega)
          simp only [go_sem, Nat.reduceBEq]
          refine cond_split (fun hg => ?_) (fun hg => ?_)
          · have hlt : i < ss.length := by simp at hg; omega
            simp only [go_sem, Nat.reduceAdd, Nat.reduceBEq, Nat.reduceLeDiff, Int.toNat_natCast, getD_seg hlt, List.length_map, Seg.enc, h3, h5, h6, hAA, hAn]
            refine ⟨by omega, ?_⟩
            obtain ⟨r, hr1, _, hr2⟩ := findV_bel ts ss[i]
            refine lkp_use (keyV ss[i].from_ ss[i].to) r rfl ⟨rfl, rfl, plc_agg _ _⟩ hr1 ?_
            rw [hr2]
            simp only [go_sem, Nat.reduceAdd, Nat.reduceBEq]
            refine ⟨by omega, by omega, ?_⟩
            refine cond_split (fun he => ?_) (fun he => ?_)
            · have hj : mergeS ts ss = (zeroS, 18) := by
                unfold mergeS
                rw [if_neg hn1, if_neg hv', if_pos (all_isSome_no hlt (by simpa using he))]
              simp only [go_sem, Nat.reduceAdd, Nat.reduceBEq, hj, h0, h1, h2, h4]
              exact hz 18
            · simp only [go_sem, Nat.reduceBEq]
              refine ⟨by unfold InR; omega, ss.length - (i + 1), _, by omega, ⟨i + 1, n' + 1, hlt, by omega, rfl, fun j hj hja => ?_, rfl⟩, by simp; try omega, ?_⟩
              · by_cases e : j = i
                · subst e
                  simpa using he
                · exact hbl j (by omega) hja
              · refine le_use ?_
                simp only [go_sem, Nat.reduceBEq, h0, h1, h2, h3, h4, h5, h6, h7, hAA, hAn]
                simp [segs_lb, tsks_lb, lbBx, lbs, lb, plc_lbs]
                omega
          · have hge : i = ss.length := by simp at hg; omega
            subst hge
            have hbs : ∀ s ∈ ss, (belS ts s).isSome = true := fun s hs => by
              obtain ⟨j, hj, rfl⟩ := List.mem_iff_getElem.1 hs
              exact hbl j hj hj
            have hb' : ¬ (ss.all fun s => (belS ts s).isSome) = false := by
              have : (ss.all fun s => (belS ts s).isSome) = true := List.all_eq_true.2 hbs
              rw [this]
              simp
            simp only [go_sem, Nat.reduceBEq]
            refine callB_use [] [.sl (ss.map Seg.enc)] [] 1 _ (by simp [rens, ren, renEs_lb _ _ (segs_lb 0 ss)]) (by simp [lbs, lb, segs_lb]) (by simp) (by simp) (by simp) (by simp [bxs]) (c28 ss) ?_
            rintro r σ' ⟨rfl, rfl⟩
            refine ⟨by simp [lb, lbs], by simp [bxl, lbBx, lbs, lb, segs_lb], ?_⟩
            simp only [go_sem, Nat.reduceSub, Nat.reduceBEq]
            have er : ren [n'] (AV.sl (ss.map Seg.enc)) = .sl (ss.map Seg.enc) := ren_lb _ _ (segs_lb 0 ss)
            rw [er]
            have h8 : (A + 1 == n') = false := nb (by omega)
            have g1 : ¬ n = n' := by omega
            have g2 : ¬ A = n' := by omega
            have g3 : ¬ A + 1 = n' := by omega
            have g4 : ¬ n = A + 1 := by omega
            have g5 : ¬ n = A := by omega
            have g6 : ¬ 0 = n' := by omega
            have g7 : ¬ 0 = n := by omega
            have g8 : ¬ 0 = A := by omega
            refine callB_use [n, A, A + 1, n'] [.fn (.func 44) [] [.ptr 3 0], .fn (.func 29) [] [.ptr 2 0]] ((3, .cs [.sl (ss.map Seg.enc)]) :: pσ3 ts) (3 * ss.length + 6) _ (by simp [rens, ren]) (by simp [lbs, lb]) (by simp [g1, g2, g3, g4, g5]) (by simp; omega) (by simp) ?_ (c27 ts hts ss h32) ?_
            · simp [bxs, pσ3, renBx, rens, ren, lbBx, lbs, lb, plcF_ren, plc_lbs, segs_lb, renEs_lb _ _ (segs_lb 0 ss), look, g1, g2, g3, g4, g5]
            rintro r σ' ⟨⟨ss', hp, hs, rfl⟩, rfl⟩
            refine ⟨segs_lb _ _, by simp [bxl, pσ3, lbBx, lbs, lb, plc_lbs], ?_⟩
            have ee : ∀ t : List (Nat × AV), endSt ⟨t, [(n', Bx.cs [.sl (ss.map Seg.enc)]), (A + 1, Bx.cs [AV.fn (Fn.func 26) [] [AV.ptr A 0]]), (A, Bx.cs [AV.mp n]), (n, Bx.mp (plcF 0 ts)), (0, Bx.cs [I 0, I 0, U 0, U 0, AV.vl (Value.slice none 0 0)])], n' + 1⟩ [n, A, A + 1, n'] (3 * ss.length + 6) ((3, .cs [.sl (ss.map Seg.enc)]) :: pσ3 ts) (pσ3 ts)
                = ⟨t, [(A + 1, Bx.cs [AV.fn (Fn.func 26) [] [AV.ptr A 0]]), (A, Bx.cs [AV.mp n]), (n, Bx.mp (plcF 0 ts)), (0, Bx.cs [I 0, I 0, U 0, U 0, AV.vl (Value.slice none 0 0)])], n' + 1 + (3 * ss.length + 2)⟩ := by
              intro t
              simp [endSt, nm, pσ3, renBx, rens, ren, plcF_ren, dropL, g1, g2, g3, g4, g5, g6, g7, g8]
            rw [ee, ren_lb _ (.sl (ss'.map Seg.enc)) (segs_lb 0 ss')]
            have hlen' : ss'.length = ss.length := hp.length_eq
            simp only [go_sem, List.length_map]
            refine ⟨by unfold InR; omega, ?_⟩
            generalize hB : n' + 1 + (3 * ss.length + 2) = B
            refine loop_use (fun m s => ∃ i : Nat, (i = 0 ∨ i ≤ ss'.length - 1) ∧ m = ss'.length - i ∧ (∀ j, j < i → (hj : j + 1 < ss'.length) → plcS ts ss'[j] ≠ plcS ts ss'[j + 1]) ∧ s = ⟨[(73, I i), (72, I ((ss'.length : Int) - 1)), (16, .sl (ss'.map Seg.enc)), (11, .ptr (A + 1) 0), (4, .ptr 0 0), (0, .sl (ts.map Tsk.enc)), (1, .sl (ss.map Seg.enc))],
              [(A + 1, .cs [.fn (.func 26) [] [.ptr A 0]]), (A, .cs [.mp n]), (n, .mp (plcF 0 ts)), (0, .cs [I 0, I 0, U 0, U 0, .vl (.slice none 0 0)])], B⟩) ss'.length _ ⟨0, by omega, rfl, fun j hj => absurd hj (by omega), rfl⟩ (by simp) ?_ ?_
            · refine le_use ?_
              simp only [go_sem, Nat.reduceBEq, h0, h1, h2, h3, hAA, hAn]
              simp [segs_lb, tsks_lb, lbBx, lbs, lb, plc_lbs]
              omega
            · rintro m s ⟨i, hi3, rfl, hne, rfl⟩
              simp only [go_sem, Nat.reduceBEq]
              refine cond_split (fun hg3 => ?_) (fun hg3 => ?_)
              · have hlt : i + 1 < ss'.length := by simp at hg3; omega
                have hgi : (ss'.map Seg.enc).getD ((i : Int) + 1).toNat [] = ss'[i + 1].enc := by
                  rw [show ((i : Int) + 1).toNat = i + 1 from by omega]
                  exact getD_seg hlt
                simp only [go_sem, Nat.reduceBEq, Int.toNat_natCast, getD_seg (show i < ss'.length by omega), List.length_map, Seg.len_enc]
                rw [show List.take 5 ss'[i].enc = ss'[i].enc from rfl]
                refine ⟨by omega, r26.ent, callR_use [n, A] [.agg ss'[i].enc, .ptr 1 0] (pσ ts) (I (plcS ts ss'[i])) (by simp [rens, ren, rens_lb _ _ (Seg.lbs_enc 0 ss'[i])]) (by simp [lbs, lb, Seg.lbs_enc]) (by simp; omega) (by simp; omega)
                  (by simp [bxs, pσ, renBx, rens, ren, lbBx, lbs, lb, plcF_ren, plc_lbs, look, g4, g5]) (by simp [lb]) (c26r ts _) ?_⟩
                simp only [go_sem, Nat.reduceBEq, hgi, List.length_map, Seg.len_enc]
                rw [show List.take 5 ss'[i + 1].enc = ss'[i + 1].enc from rfl]
                refine ⟨by unfold InR; omega, by omega, r26.ent, callB_use [n, A] [.agg ss'[i + 1].enc, .ptr 1 0] (pσ ts) 2 _ (by simp [rens, ren, rens_lb _ _ (Seg.lbs_enc 0 ss'[i + 1])]) (by simp [lbs, lb, Seg.lbs_enc]) (by simp; omega) (by simp; omega) (by simp)
                  (by simp [bxs, pσ, renBx, rens, ren, lbBx, lbs, lb, plcF_ren, plc_lbs, look, g4, g5]) (c26r ts _) ?_⟩
                rintro r σ' ⟨rfl, rfl⟩
                refine ⟨by simp [lb], by simp [bxl, pσ, lbBx, lbs, lb, plc_lbs], ?_⟩
                have e2 : ∀ t : List (Nat × AV), endSt ⟨t, [(A + 1, Bx.cs [AV.fn (Fn.func 26) [] [AV.ptr A 0]]), (A, Bx.cs [AV.mp n]), (n, Bx.mp (plcF 0 ts)), (0, Bx.cs [I 0, I 0, U 0, U 0, AV.vl (Value.slice none 0 0)])], B⟩ [n, A] 2 (pσ ts) (pσ ts)
                    = ⟨t, [(A, Bx.cs [AV.mp n]), (n, Bx.mp (plcF 0 ts)), (A + 1, Bx.cs [AV.fn (Fn.func 26) [] [AV.ptr A 0]]), (0, Bx.cs [I 0, I 0, U 0, U 0, AV.vl (Value.slice none 0 0)])], B⟩ := by
                  intro t
                  simp [endSt, nm, pσ, renBx, rens, ren, plcF_ren, dropL, g5, g7, g8]
                  omega
                rw [e2, ren_lb _ (I (plcS ts ss'[i + 1])) (by simp [lb])]
                simp only [go_sem, Nat.reduceBEq]
                have hA1A : (A + 1 == A) = false := nb (by omega)
                have hA1n : (A + 1 == n) = false := nb (by omega)
                refine cond_split (fun he => ?_) (fun he => ?_)
                · have hnd : ¬ (ss.map (plcS ts)).Nodup := by
                    rw [← nodup_of hp, List.Nodup, List.pairwise_map]
                    intro hpw
                    exact List.pairwise_iff_getElem.1 hpw i (i + 1) (by omega) hlt (by omega) (by simpa using he)
                  have hj : mergeS ts ss = (zeroS, 5) := by
                    unfold mergeS
                    rw [if_neg hn1, if_neg hv', if_neg hb', if_pos hnd]
                  simp only [go_sem, Nat.reduceAdd, Nat.reduceBEq, hj, h0, h1, h2]
                  exact hz 5
                · simp only [go_sem, Nat.reduceBEq]
                  refine ⟨by unfold InR; omega, ss'.length - (i + 1), _, by omega, ⟨i + 1, by omega, rfl, fun j hj hja => ?_, rfl⟩, by omega, ?_⟩
                  · by_cases e : j = i
                    · subst e
                      simpa using he
                    · exact hne j (by omega) hja
                  · refine le_use ?_
                    simp only [go_sem, Nat.reduceBEq, h0, h1, h2, hAn, hA1A, hA1n]
                    simp [segs_lb, tsks_lb, lbBx, lbs, lb, plc_lbs]
                    omega
              · have hlt' : ss'.Pairwise fun a b => plcS ts a < plcS ts b := sorted_lt hs fun j hj => hne j (by simp at hg3; omega) hj
                have hnd : ¬ ¬ (ss.map (plcS ts)).Nodup := by
                  rw [← nodup_of hp, List.Nodup, List.pairwise_map]
                  exact fun h => h (hlt'.imp fun h => by omega)
                simp only [go_sem, Nat.reduceBEq, List.length_map]
                refine cond_split (fun he => ?_) (fun he => ?_)
                · have hj : mergeS ts ss = (zeroS, 4) := by
                    unfold mergeS
                    rw [if_neg hn1, if_neg hv', if_neg hb', if_neg hnd, if_pos (by simp at he; omega)]
                  simp only [go_sem, Nat.reduceAdd, Nat.reduceBEq, hj, h0, h1, h2]
                  exact hz 4
                · have hj : mergeS ts ss = joinS ss' := by
                    unfold mergeS
                    rw [if_neg hn1, if_neg hv', if_neg hb', if_neg hnd, if_neg (by simp at he; omega), placed_eq hp hbs hlt' (by simp at he; omega)]
                  simp only [go_sem, Nat.reduceBEq]
                  refine call_eq (by simp [lbs, lb, segs_lb]) (c24 ss' (by omega)) ?_
                  simp only [go_sem, Nat.reduceAdd, Nat.reduceBEq, hj, h0, h1, h2]
                  rw [seg_frz]
                  exact ⟨by omega, by omega, ⟨rfl, by simp [Seg.enc, AV.isCell, Value.oneCell']⟩, Nat.le_refl 5, Seg.lbs_enc 0 _, avle_refl _⟩
end Go.QL
