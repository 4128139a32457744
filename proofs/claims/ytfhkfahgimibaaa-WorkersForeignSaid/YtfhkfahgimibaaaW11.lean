/- Contracts: the places, read; the comparison; the values of a row. -/
import Derived.Test.YtfhkfahgimibaaaW10
namespace Go.QL
open Go.Proofs.Try
def plcI (k : Nat) : List Tsk → List (Value × Value)
  | [] => []
  | t :: ts => (keyV t.from_ t.to, .int .i64 k) :: plcI (k + 1) ts
theorem plcI_map : ∀ (k : Nat) (ts : List Tsk), (plcI k ts).map (fun e => (e.1, AV.vl e.2)) = plcF k ts
  | k, [] => rfl
  | k, t :: ts => by simp only [plcI, plcF, List.map_cons, plcI_map (k + 1) ts]
/-- The place of a segment's task. -/
def plcS (ts : List Tsk) (s : Seg) : Int := match belS ts s with
  | some n => n
  | none => 0
theorem findV_bel (ts : List Tsk) (s : Seg) : ∃ r, findV [0, 0] (keyV s.from_ s.to).cells.toList (plcF 0 ts) 0 = some r ∧ lkpR false (.int .i64 0) r = I (plcS ts s) ∧ lkpR true (.int .i64 0) r = .tup [I (plcS ts s), B (belS ts s).isSome] := by
  obtain ⟨j, hj⟩ := findV_plc s.from_ s.to ts 0 0
  refine ⟨_, hj, ?_⟩
  change _ = _ ∧ _
  unfold plcS
  have e : (ts.findIdx? fun x => decide (x.from_ = s.from_) && decide (x.to = s.to)) = belS ts s := rfl
  rw [e]
  cases belS ts s <;> simp [lkpR]
theorem plcS_bd (ts : List Tsk) (s : Seg) : 0 ≤ plcS ts s ∧ plcS ts s ≤ ts.length := by
  unfold plcS
  split
  · rename_i n h
    have := (List.findIdx?_eq_some_iff_getElem.1 h).1
    omega
  · omega
set_option maxRecDepth 100000 in
theorem c26i (ts : List Tsk) (s : Seg) : FP prog 26 [.agg s.enc, .dp [.imp (plcI 0 ts)]] (fun x => x = I (plcS ts s)) := by
  refine fp_start r26 (by simp) ?_
  simp only [go_sem, m26, Nat.reduceAdd, Nat.reduceBEq, Nat.reduceLeDiff, Seg.enc]
  obtain ⟨r, h1, h2, _⟩ := findV_bel ts s
  refine lkp_use (keyV s.from_ s.to) r rfl ⟨rfl, rfl, ?_⟩ (by rw [plcI_map]; exact h1) ?_
  · rw [plcI_map]
    exact plc_agg _ _
  rw [h2]
  simp only [go_sem]
/-- The boxes of the places: the variable for the closure, the variable for the map, the map. -/
def pσ (ts : List Tsk) : List (Nat × Bx) := [(1, .cs [.mp 0]), (0, .mp (plcF 0 ts))]
set_option maxRecDepth 100000 in
theorem c26 (ts : List Tsk) (s : Seg) : FC prog 26 2 [.agg s.enc, .ptr 1 0] (pσ ts) 3 (fun r σ => r = I (plcS ts s) ∧ σ = pσ ts) := by
  refine fc_start r26 (by simp) rfl ?_
  simp only [go_sem, m26, Nat.reduceAdd, Nat.reduceBEq, Nat.reduceLeDiff, Seg.enc, pσ]
  obtain ⟨r, h1, h2, _⟩ := findV_bel ts s
  refine lkp_use (keyV s.from_ s.to) r rfl ⟨rfl, rfl, plc_agg _ _⟩ h1 ?_
  rw [h2]
  simp only [go_sem]
  refine keep_use [0, 1] (by simp) (by simp [look]) ?_
  simp [keepL, frz]
set_option maxRecDepth 100000 in
theorem c29i (ts : List Tsk) (hlen : ts.length < 2 ^ 62) (a b : Seg) : FP prog 29 [.agg a.enc, .agg b.enc, .dp [.fn (.func 26) [] [.dp [.imp (plcI 0 ts)]]]] (fun x => x = I (plcS ts a - plcS ts b)) := by
  refine fp_start r29 (by simp) ?_
  simp only [go_sem, m29, Nat.reduceAdd, Nat.reduceBEq, Seg.enc]
  have h1 := plcS_bd ts a
  have h2 := plcS_bd ts b
  refine ⟨r26.ent, callT_eq (by simp [lbs, lb, recs_lb]) (c26i ts a) ?_⟩
  simp only [go_sem, Nat.reduceAdd, Nat.reduceBEq]
  refine ⟨r26.ent, call_eq (by simp [lbs, lb, recs_lb]) (c26i ts b) ?_⟩
  simp only [go_sem, Nat.reduceBEq]
  unfold InR
  omega
theorem c28 (ss : List Seg) : FC prog 28 0 [.sl (ss.map Seg.enc)] [] 1 (fun r σ => r = .fn (.func 44) [] [.ptr 0 0] ∧ σ = [(0, .cs [.sl (ss.map Seg.enc)])]) := by
  refine fc_start r28 (by simp) rfl ?_
  simp only [go_sem, m28, Nat.reduceBEq]
  refine keep_use [0] (by simp) (by simp [look]) ?_
  simp [keepL, frz]
def segXs (ss : List Seg) : List (List AV) := ss.map fun s => [.agg s.enc]
theorem c44 (ss : List Seg) (hlen : ss.length < 2 ^ 62) : IC prog 44 1 [.ptr 0 0] [(0, .cs [.sl (ss.map Seg.enc)])] (segXs ss) := by
  refine ic_start r44 rfl (by simp) rfl fun b => ?_
  simp only [go_sem, m44, Nat.reduceAdd, Nat.reduceBEq]
  refine loop_use (fun m s => ∃ i n : Nat, i ≤ ss.length ∧ 2 ≤ n ∧ m = ss.length - i ∧ s = ⟨[(7, I i), (6, I ss.length), (5, .sl (ss.map Seg.enc)), (0, .vl (.func (.yield b) #[] #[]))], [(1, .yc b (some ((segXs ss).drop i))), (0, .cs [.sl (ss.map Seg.enc)])], n⟩) ss.length _ ⟨0, 2, by omega, by omega, rfl, rfl⟩ (by simp) ?_ ?_
  · refine le_use ?_
    simp only [go_sem, Nat.reduceBEq]
    simp [lbBx, lb, lbs, segs_lb]
  · rintro m s ⟨i, n, hi, hn, rfl, rfl⟩
    simp only [go_sem, Nat.reduceBEq]
    refine cond_split (fun hc => ?_) (fun hc => ?_)
    · have hlt : i < ss.length := by simp at hc; omega
      have h1n : (1 == n) = false := nb (by omega)
      have h0n : (0 == n) = false := nb (by omega)
      simp only [go_sem, Nat.reduceAdd, Nat.reduceBEq, Int.toNat_natCast, getD_seg hlt, List.length_map, Seg.enc]
      refine ⟨by omega, ?_⟩
      have e1 : (segXs ss).drop i = [.agg ss[i].enc] :: (segXs ss).drop (i + 1) := by
        rw [List.drop_eq_getElem_cons (by simp [segXs]; omega)]
        simp [segXs]
      refine yield_use 1 ((segXs ss).drop (i + 1)) (by rw [e1]; simp [look, Seg.enc]; try omega) (by simp [lbs, lb, recs_lb]) ?_ ?_
      · simp only [go_sem, Nat.reduceBEq, h1n]
        refine ⟨by unfold InR; omega, ss.length - (i + 1), _, by omega, ⟨i + 1, n + 1, hlt, by omega, rfl, rfl⟩, by simp; try omega, ?_⟩
        refine le_use ?_
        simp only [go_sem, Nat.reduceBEq, h1n, h0n]
        simp [lbBx, lb, lbs, segs_lb]
        try omega
      · simp only [go_sem, h1n]
        exact ⟨_, rfl, .inr rfl⟩
    · have hge : i = ss.length := by simp at hc; omega
      subst hge
      simp only [go_sem]
      refine ⟨_, rfl, .inl ?_⟩
      rw [List.drop_of_length_le]
      simp [segXs]
/-- The first segments, as cells. -/
def sgC (ss : List Seg) (i : Nat) : List AV := ((ss.take i).map Seg.enc).flatten
theorem segs_len {ss : List Seg} : ∀ e ∈ ss.map Seg.enc, e.length = 5 := fun e he => by
  obtain ⟨x, _, rfl⟩ := List.mem_map.1 he
  rfl
theorem sgC_len (ss : List Seg) {i : Nat} (h : i ≤ ss.length) : (sgC ss i).length = i * 5 := by
  unfold sgC
  rw [flat_len segs_len]
  simp
  omega
theorem flatC_lbs (ss : List Seg) (m : Nat) : lbs m (ss.map Seg.enc).flatten := by
  refine (lbs_iff _ _).2 fun x hx => ?_
  obtain ⟨y, hy, hx⟩ := List.mem_flatten.1 hx
  obtain ⟨z, _, rfl⟩ := List.mem_map.1 hy
  exact (lbs_iff _ _).1 (z.lbs_enc m) x hx
theorem sgC_lbs (ss : List Seg) (i m : Nat) : lbs m (sgC ss i) := flatC_lbs _ _
theorem sgC_succ (ss : List Seg) {i : Nat} (h : i < ss.length) : sgC ss (i + 1) = sgC ss i ++ ss[i].enc := by
  unfold sgC
  rw [List.take_succ_eq_append_getElem h, List.map_append, List.flatten_append]
  simp
theorem frz_no {σ : List (Nat × Bx)} {d sz l off len cap : Nat} (h : look σ l = none) : frz σ (d + 1) (.osl sz l off len cap) = .osl sz l off len cap := by
  simp only [frz]
  rw [h]
/-- A row of segments in a box. -/
def rowPost (N : Nat) (ss : List Seg) (N' : Nat) (r : AV) (σ : List (Nat × Bx)) : Prop := ∃ l, N ≤ l ∧ l < N' ∧ r = olst 5 l ss.length ∧ σ = obx l ss.length (ss.map Seg.enc).flatten
theorem keepL_none {l : Nat} : ∀ {σ : List (Nat × Bx)}, look σ l = none → keepL [l] σ = []
  | [], _ => rfl
  | (j, x) :: r, h => by
    simp only [look] at h
    split at h
    · cases h
    · rename_i hne
      have : ([l] : List Nat).contains j = false := by simpa using fun e => hne (by simp [e])
      rw [keepL, this]
      simpa using keepL_none h
theorem look_dropL_self {l : Nat} : ∀ {σ : List (Nat × Bx)}, look (dropL [l] σ) l = none
  | [] => rfl
  | (j, x) :: r => by
    by_cases e : j = l
    · subst e
      simpa [dropL] using look_dropL_self
    · have : ([l] : List Nat).contains j = false := by simpa using e
      rw [dropL, this]
      simp only [Bool.false_eq_true, if_false]
      rw [look_miss (nb (Ne.symm e))]
      exact look_dropL_self
theorem keepL_app (ks : List Nat) : ∀ σ τ : List (Nat × Bx), keepL ks (σ ++ τ) = keepL ks σ ++ keepL ks τ
  | [], _ => rfl
  | (j, x) :: r, τ => by
    simp only [List.cons_append, keepL, keepL_app ks r]
    split <;> rfl
/-- At the end: a row of one's own is handed back. -/
theorem keepRow {N0 N' : Nat} {σ0 σr : List (Nat × Bx)} {t : List (Nat × AV)} {n l : Nat} {ss : List Seg} {u : DU (rowPost N0 ss N')} (h1 : N0 ≤ l) (h2 : n ≤ N') (h3 : 0 < ss.length → l < N') (h4 : N0 < N') (h5 : look σr l = none) :
    keepB N0 N' σ0 ⟨t, obx l ss.length (ss.map Seg.enc).flatten ++ σr, n⟩ (olst 5 l ss.length) (rowPost N0 ss N') u := by
  rcases Nat.eq_zero_or_pos ss.length with h0 | h0
  · refine keep_use [] h2 (by simp) ⟨N0, Nat.le_refl _, h4, ?_, ?_⟩
    · rw [h0]
      simp [olst, frz]
    · rw [h0]
      have : ∀ τ : List (Nat × Bx), keepL [] τ = [] := fun τ => by
        induction τ with
        | nil => rfl
        | cons p τ ih => simpa [keepL] using ih
      rw [this]
      simp [obx]
  · obtain ⟨k, hk⟩ : ∃ k, ss.length = k + 1 := ⟨ss.length - 1, by omega⟩
    refine keep_use [l] h2 (by simp; omega) ⟨l, h1, h3 h0, ?_, ?_⟩
    · rw [hk, olst_pos]
      exact frz_no look_dropL_self
    · rw [hk, obx_pos, keepL_app, keepL_none h5]
      simp [keepL]
set_option maxRecDepth 100000 in
theorem c46 (ss : List Seg) (hlen : ss.length ≤ 32) : FC prog 46 1 [.vl (.slice none 0 0), .fn (.func 44) [] [.ptr 0 0]] [(0, .cs [.sl (ss.map Seg.enc)])] (3 * ss.length + 3) (rowPost 1 ss (3 * ss.length + 3)) := by
  refine fc_start r46 (by simp) rfl ?_
  simp only [go_sem, m46, Nat.reduceAdd, Nat.reduceBEq]
  refine rng_use 44 [.ptr 0 0] (by simp only [go_sem]) r44.ent [0] [.ptr 0 0] [(0, .cs [.sl (ss.map Seg.enc)])] (segXs ss) [(2, .ptr 1 0)]
    (fun rest σ n => ∃ i l, i ≤ ss.length ∧ (l < n ∨ n + 5 < l) ∧ (0 < i → l < n) ∧ 1 < l ∧ 1 < n ∧ n ≤ 2 + 3 * i ∧ rest = (segXs ss).drop i ∧ σ = obx l i (sgC ss i) ++ [(1, .cs [olst 5 l i])]) [(1, .cs [.vl (.slice none 0 0)])] 2
    rfl (by simp [lbs, lb]) (by simp) (by simp) (by simp [bxs, lbBx, lbs, lb, look, renBx, rens, ren, segs_lb, renEs_lb _ _ (segs_lb 0 ss)]) (c44 ss (by omega)) ?_ ⟨0, 100, by omega, by omega, by omega, by omega, by omega, by omega, rfl, by simp [obx, olst]⟩ (by simp) ?_ ?_ ?_
  · intro x hx
    obtain ⟨k, hk, rfl⟩ := List.mem_map.1 hx
    simp [lbs, lb, Seg.lbs_enc]
  · refine le_use ?_
    simp only [go_sem, Nat.reduceBEq]
    simp [lbBx, lb, lbs, dropL, look]
  · rintro x rest σ n ⟨i, l, hi, hln, hl, hl1, hn1, hn, hrest, rfl⟩ hxl hx0
    have hilt : i < ss.length := by
      refine Classical.byContradiction fun h => ?_
      rw [List.drop_of_length_le (by simp [segXs]; omega)] at hrest
      cases hrest
    have e1 : (segXs ss).drop i = [.agg ss[i].enc] :: (segXs ss).drop (i + 1) := by
      rw [List.drop_eq_getElem_cons (by simp [segXs]; omega)]
      simp [segXs]
    rw [e1] at hrest
    obtain ⟨rfl, rfl⟩ := List.cons.inj hrest
    have hb1 : (1 == l) = false := nb (by omega)
    have hbn : (n == l) = false := nb (by omega)
    have hb1n : (1 == n) = false := nb (by omega)
    have hbn1 : (n == n + 1) = false := nb (by omega)
    simp only [go_sem, Nat.reduceAdd, Nat.reduceBEq, look_obx hb1, hb1n, Seg.enc]
    refine app_own (sgC_len ss hi) (fun h0 => ?_) (by unfold maxLen; omega) (by omega) ?_
    · have : (l == n) = false := nb (by omega)
      have : (l == n + 1) = false := nb (by omega)
      simp only [look_miss, look_self h0, *]
    have hln' : (l == n) = false := nb (by omega)
    have hln1 : (l == n + 1) = false := nb (by omega)
    have h1n2 : (1 == n + 1 + 1) = false := nb (by omega)
    have h1n1 : (1 == n + 1) = false := nb (by omega)
    have hbn0 : ∀ x, look [(1, Bx.cs [olst 5 l i])] l ≠ some x := by
      intro x
      simp [look, show ¬ l = 1 by omega]
    simp only [go_sem, Nat.reduceBEq, erax_cons hln', erax_cons hln1, erax_obx hbn0, hb1n, h1n2, h1n1]
    refine ⟨_, n + 1 + 1 + 1, ⟨i + 1, n + 1 + 1, hilt, by omega, by omega, by omega, by omega, by omega, rfl, rfl⟩, by omega, ?_⟩
    refine le_use ?_
    have e2 := sgC_succ ss hilt
    simp only [Seg.enc] at e2
    rw [obx_pos, olst_pos, e2]
    simp only [go_sem, hb1n, h1n2, h1n1]
    refine ⟨by simp only [lb]; omega, by omega, lbs_app.2 ⟨sgC_lbs _ _ _, by simp [lbs, lb, recs_lb]⟩, by omega, by simp [lbBx, lbs, lb]⟩
  · rintro σ n ⟨i, l, hi, hln, hl, hl1, hn1, hn, hrest, rfl⟩
    have hieq : i = ss.length := by
      refine Classical.byContradiction fun h => ?_
      have := congrArg List.length hrest
      simp [segXs] at this
      omega
    subst hieq
    have hb1 : (1 == l) = false := nb (by omega)
    simp only [go_sem, look_obx hb1]
    have hfl : sgC ss ss.length = (ss.map Seg.enc).flatten := by simp [sgC]
    rw [hfl]
    exact keepRow (by omega) (by omega) (fun h => by have := hl h; omega) (by omega) (by simp [look]; omega)
theorem nm_new {s : St} {π : List Nat} {N' l : Nat} (h1 : π.length ≤ l) (h2 : l < N') : (nm s π N').getD l 0 = s.n + (l - π.length) := by
  unfold nm
  rw [List.getD_eq_getElem?_getD, List.getElem?_append_right h1, List.getElem?_range' (by omega)]
  simp
theorem ren_olst (f : List Nat) (sz l i : Nat) : ren f (olst sz l i) = olst sz (f.getD l 0) i := by
  cases i with
  | zero => simp [olst, ren]
  | succ i => simp [olst_pos, ren]
theorem renσ_obx (f : List Nat) (l i : Nat) {cs : List AV} (h : lbs 0 cs) : renσ f (obx l i cs) = obx (f.getD l 0) i cs := by
  cases i with
  | zero => simp [obx, renσ]
  | succ i => simp [obx_pos, renσ, renBx, rens_lb f cs h]
theorem bxl_obx {n l i : Nat} {cs : List AV} (h : lbs n cs) : bxl n (obx l i cs) := by
  cases i with
  | zero => simp [obx, bxl]
  | succ i => simp [obx_pos, bxl, lbBx, h]
/-- A call that hands back a row of its own. -/
theorem callRow {P : Program} {f : FuncId} {xs : List AV} {s : St} {dst : Option Nat} {K : St → Prop} {u : DU K} (ss : List Seg) (π : List Nat) (as' : List AV) (σc : List (Nat × Bx)) (N' : Nat)
    (h1 : xs = rens π as') (h2 : lbs π.length as') (h3 : π.Nodup) (h4 : ∀ l ∈ π, l < s.n) (h5 : π.length ≤ N') (h6 : bxs π s.σ σc) (h7 : FC P f π.length as' σc N' (rowPost π.length ss N'))
    (h8 : ∀ l, s.n ≤ l → l < s.n + (N' - π.length) → K (St.put ⟨s.t, obx l ss.length (ss.map Seg.enc).flatten ++ dropL (σc.map fun p => π.getD p.1 0) s.σ, s.n + (N' - π.length)⟩ dst (olst 5 l ss.length))) : sCall P f xs s dst K u := by
  refine callB_use π as' σc N' _ h1 h2 h3 h4 h5 h6 h7 ?_
  rintro r σ' ⟨l, hl0, hl, rfl, rfl⟩
  refine ⟨lb_olst hl, bxl_obx (flatC_lbs _ _), ?_⟩
  have h9 := h8 (s.n + (l - π.length)) (by omega) (by omega)
  have e : endSt s π N' σc (obx l ss.length (ss.map Seg.enc).flatten) = ⟨s.t, obx (s.n + (l - π.length)) ss.length (ss.map Seg.enc).flatten ++ dropL (σc.map fun p => π.getD p.1 0) s.σ, s.n + (N' - π.length)⟩ := by
    rw [endSt, renσ_map, renσ_obx _ _ _ (flatC_lbs _ _), nm_new hl0 hl]
  rw [e, ren_olst, nm_new hl0 hl]
  exact h9
set_option maxRecDepth 100000 in
theorem c42 (ss : List Seg) (hlen : ss.length ≤ 32) : FC prog 42 1 [.fn (.func 44) [] [.ptr 0 0]] [(0, .cs [.sl (ss.map Seg.enc)])] (3 * ss.length + 3) (rowPost 1 ss (3 * ss.length + 3)) := by
  refine fc_start r42 (by simp) rfl ?_
  simp only [go_sem, m42, Nat.reduceBEq]
  refine callRow ss [0] [.vl (.slice none 0 0), .fn (.func 44) [] [.ptr 0 0]] [(0, .cs [.sl (ss.map Seg.enc)])] (3 * ss.length + 3) rfl (by simp [lbs, lb]) (by simp) (by simp) (by simp) (by simp [bxs, lbBx, lbs, lb, look, renBx, rens, ren, segs_lb, renEs_lb _ _ (segs_lb 0 ss)]) (c46 ss hlen) ?_
  intro l hl1 hl2
  simp only [go_sem, List.map_cons, List.map_nil, List.length_cons, List.length_nil] at hl1 hl2 ⊢
  exact keepRow (by omega) (by omega) (fun h => by omega) (by omega) (by simp [dropL, look])
end Go.QL
