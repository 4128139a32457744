/- Contract: slices.SortedFunc of segments. -/
import Derived.Test.YtfhkfahgimibaaaW14
namespace Go.QL
open Go.Proofs.Try
theorem renσ_app (f : List Nat) : ∀ σ τ : List (Nat × Bx), renσ f (σ ++ τ) = renσ f σ ++ renσ f τ
  | [], _ => rfl
  | (l, x) :: r, τ => by simp only [List.cons_append, renσ, renσ_app f r]
theorem plcF_ren (f : List Nat) (k : Nat) (ts : List Tsk) : (plcF k ts).map (fun e => (e.1, ren f e.2)) = plcF k ts := by
  rw [← plcI_map, List.map_map]
  rfl
theorem bxs_app {π : List Nat} {σ : List (Nat × Bx)} : ∀ {a b : List (Nat × Bx)}, bxs π σ a → bxs π σ b → bxs π σ (a ++ b)
  | [], _, _, h => h
  | (l, x) :: r, b, h, h' => by
    simp only [List.cons_append, bxs] at h ⊢
    exact ⟨h.1, bxs_app h.2 h'⟩
theorem bxl_app {n : Nat} : ∀ {a b : List (Nat × Bx)}, bxl n a → bxl n b → bxl n (a ++ b)
  | [], _, _, h => h
  | (l, x) :: r, b, h, h' => by
    simp only [List.cons_append, bxl] at h ⊢
    exact ⟨h.1, bxl_app h.2 h'⟩
theorem bxs_obx {π : List Nat} {σ : List (Nat × Bx)} {j i : Nat} {cs : List AV} (h : 0 < i → look σ (π.getD j 0) = some (.cs cs)) (hc : ∀ n, lbs n cs) (hj : j < π.length) : bxs π σ (obx j i cs) := by
  cases i with
  | zero => simp [obx, bxs]
  | succ i =>
    rw [obx_pos]
    simp only [bxs, renBx, rens_lb π cs (hc 0), lbBx]
    exact ⟨⟨hj, hc _, h (by omega)⟩, trivial⟩
theorem callSort {s : St} {dst : Option Nat} {K : St → Prop} {u : DU K} {ts : List Tsk} (hts : ts.length < 2 ^ 62) {ss : List Seg} (hlen : ss.length ≤ 32) {l : Nat} (hl : 3 ≤ l) (hln : l < s.n) (hσ : s.σ = obx l ss.length (ss.map Seg.enc).flatten ++ pσ3 ts)
    (hK : ∀ ss' : List Seg, ss'.Perm ss → ss'.Pairwise (fun a b => plcS ts a ≤ plcS ts b) → K (St.put ⟨s.t, obx l ss.length (ss'.map Seg.enc).flatten ++ pσ3 ts, s.n⟩ dst (.tup []))) : sCall prog 43 [olst 5 l ss.length, .fn (.func 29) [] [.ptr 2 0]] s dst K u := by
  have look3 : ∀ j, j < 3 → look s.σ j = look (pσ3 ts) j := fun j hj => by
    rw [hσ, look_obx (nb (by omega))]
  refine callB_use [0, 1, 2, l] [olst 5 3 ss.length, .fn (.func 29) [] [.ptr 2 0]] (obx 3 ss.length (ss.map Seg.enc).flatten ++ pσ3 ts) 4 _ (by simp [rens, ren_olst, ren]) ⟨lb_olst (by simp), by simp [lb, lbs]⟩ (by simp; omega) (by simp; omega) (by simp) (bxs_app (bxs_obx (fun h => ?_) (fun _ => flatC_lbs _ _) (by simp)) ?_) (c43 ts hts ss hlen) ?_
  · rw [hσ]
    exact look_self h _ _
  · have h2 := look3 2 (by omega)
    have h1 := look3 1 (by omega)
    have h0 := look3 0 (by omega)
    simp [bxs, pσ3, renBx, rens, ren, lbBx, lbs, lb, plcF_ren, plc_lbs, h2, h1, h0, look]
  · rintro r σ' ⟨rfl, ss', hp, hs, rfl⟩
    have hlen' : ss'.length = ss.length := hp.length_eq
    refine ⟨by simp [lb, lbs], ?_, ?_⟩
    · exact bxl_app (bxl_obx (flatC_lbs _ _)) (by simp [bxl, pσ3, lbBx, lbs, lb, plc_lbs])
    · have := hK ss' hp hs
      have e : endSt s [0, 1, 2, l] 4 (obx 3 ss.length (ss.map Seg.enc).flatten ++ pσ3 ts) (obx 3 ss.length (ss'.map Seg.enc).flatten ++ pσ3 ts) = ⟨s.t, obx l ss.length (ss'.map Seg.enc).flatten ++ pσ3 ts, s.n⟩ := by
        have e1 : nm s [0, 1, 2, l] 4 = [0, 1, 2, l] := by simp [nm]
        have e2 : renσ [0, 1, 2, l] (pσ3 ts) = pσ3 ts := by simp [pσ3, renσ, renBx, rens, ren, plcF_ren]
        have e3 : dropL ((obx 3 ss.length (ss.map Seg.enc).flatten ++ pσ3 ts).map fun p => [0, 1, 2, l].getD p.1 0) (obx l ss.length (ss.map Seg.enc).flatten ++ pσ3 ts) = [] := by
          rcases Nat.eq_zero_or_pos ss.length with h | h
          · rw [h]
            simp [obx, pσ3, dropL]
          · obtain ⟨k, hk⟩ : ∃ k, ss.length = k + 1 := ⟨ss.length - 1, by omega⟩
            rw [hk]
            simp [obx_pos, pσ3, dropL]
        rw [endSt, renσ_map, renσ_app, renσ_obx _ _ _ (flatC_lbs _ _), e1, e2, hσ, e3]
        simp
      rw [e]
      exact this
set_option maxRecDepth 100000 in
theorem c27 (ts : List Tsk) (hts : ts.length < 2 ^ 62) (ss : List Seg) (hlen : ss.length ≤ 32) :
    FC prog 27 4 [.fn (.func 44) [] [.ptr 3 0], .fn (.func 29) [] [.ptr 2 0]] ((3, .cs [.sl (ss.map Seg.enc)]) :: pσ3 ts) (3 * ss.length + 6) (fun r σ => (∃ ss' : List Seg, ss'.Perm ss ∧ ss'.Pairwise (fun a b => plcS ts a ≤ plcS ts b) ∧ r = .sl (ss'.map Seg.enc)) ∧ σ = pσ3 ts) := by
  refine FC_sub (post := fun r σ => (∃ ss' : List Seg, ss'.Perm ss ∧ ss'.Pairwise (fun a b => plcS ts a ≤ plcS ts b) ∧ r = if ss'.length = 0 then .vl (.slice none 0 0) else .sl (ss'.map Seg.enc)) ∧ σ = pσ3 ts) ?_ ?_
  rotate_left
  · intro r σ'
    rintro ⟨⟨ss', hp, hs, rfl⟩, rfl⟩
    refine ⟨_, ⟨⟨ss', hp, hs, rfl⟩, rfl⟩, ?_⟩
    cases ss' with
    | nil => exact avle_nil
    | cons x l => exact avle_refl _
  refine fc_start r27 (by simp) rfl ?_
  simp only [go_sem, m27, Nat.reduceAdd, Nat.reduceBEq]
  refine callRow ss [3] [.fn (.func 44) [] [.ptr 0 0]] [(0, .cs [.sl (ss.map Seg.enc)])] (3 * ss.length + 3) rfl (by simp [lbs, lb]) (by simp) (by simp) (by simp) (by simp [bxs, lbBx, lbs, lb, look, renBx, rens, ren, segs_lb, renEs_lb _ _ (segs_lb 0 ss)]) (c42 ss hlen) ?_
  intro l hl1 hl2
  have e : dropL (List.map (fun p : Nat × Bx => [3].getD p.1 0) [(0, Bx.cs [.sl (ss.map Seg.enc)])]) ((3, .cs [.sl (ss.map Seg.enc)]) :: pσ3 ts) = pσ3 ts := rfl
  simp only [go_sem, Nat.reduceBEq, List.length_cons, List.length_nil] at hl1 hl2 ⊢
  refine callSort hts hlen (by omega) hl2 rfl ?_
  intro ss' hp hs
  simp only [go_sem, Nat.reduceBEq]
  have hlen' : ss'.length = ss.length := hp.length_eq
  refine keep_use [0, 1, 2] (by show 4 + (3 * ss.length + 3 - 1) ≤ _; omega) (fun j hj _ => ?_) ⟨⟨ss', hp, hs, ?_⟩, ?_⟩
  · simp only [List.mem_cons, List.not_mem_nil, or_false] at hj
    rcases hj with rfl | rfl | rfl <;> simp [look, pσ3]
  · have e1 : dropL [0, 1, 2] (obx l ss.length (ss'.map Seg.enc).flatten ++ pσ3 ts) = obx l ss.length (ss'.map Seg.enc).flatten := by
      rcases Nat.eq_zero_or_pos ss.length with h | h
      · rw [h]
        simp [obx, pσ3, dropL]
      · obtain ⟨k, hk⟩ : ∃ k, ss.length = k + 1 := ⟨ss.length - 1, by omega⟩
        rw [hk]
        simp [obx_pos, pσ3, dropL, show ¬ l = 0 by omega, show ¬ l = 1 by omega, show ¬ l = 2 by omega]
    have e2 : (ss'.map Seg.enc).length = ss.length := by simp [hlen']
    rw [e1, ← e2, frz_rows (fun h => look_self0 h) segs_len (by
      intro e he
      obtain ⟨x, _, rfl⟩ := List.mem_map.1 he
      simp [Seg.enc, frz])]
    simp
  · rcases Nat.eq_zero_or_pos ss.length with h | h
    · rw [h]
      simp [obx, pσ3, keepL]
    · obtain ⟨k, hk⟩ : ∃ k, ss.length = k + 1 := ⟨ss.length - 1, by omega⟩
      rw [hk]
      simp [obx_pos, pσ3, keepL, show ¬ l = 0 by omega, show ¬ l = 1 by omega, show ¬ l = 2 by omega]
end Go.QL
