/- Contract: the places of the tasks. -/
import Derived.Test.YtfhkfahgimibaaaW9
namespace Go.QL
open Go.Proofs.Try
def keyV (f t : Int) : Value := .agg #[.int .i64 f, .int .i64 t]
def plcF (k : Nat) : List Tsk → List (Value × AV)
  | [] => []
  | t :: ts => (keyV t.from_ t.to, I k) :: plcF (k + 1) ts
theorem plc_app : ∀ (k : Nat) (xs ys : List Tsk), plcF k (xs ++ ys) = plcF k xs ++ plcF (k + xs.length) ys
  | k, [], ys => by simp [plcF]
  | k, x :: xs, ys => by
    simp only [List.cons_append, plcF, plc_app (k + 1) xs ys, List.length_cons]
    rw [show k + 1 + xs.length = k + (xs.length + 1) by omega]
theorem plc_agg : ∀ (k : Nat) (ts : List Tsk), ∀ e ∈ plcF k ts, Value.isAggV e.1 = true
  | k, [], e, he => by simp [plcF] at he
  | k, t :: ts, e, he => by
    simp only [plcF, List.mem_cons] at he
    rcases he with rfl | he
    · rfl
    · exact plc_agg _ _ _ he
theorem plc_lbs (m : Nat) : ∀ (k : Nat) (ts : List Tsk), lbs m ((plcF k ts).map (·.2))
  | k, [] => by simp [plcF, lbs]
  | k, t :: ts => by
    simp only [plcF, List.map_cons, lbs, lb]
    exact ⟨trivial, plc_lbs m _ _⟩
theorem eqV_key (f t f' t' : Int) : eqVs [0, 0] [.int .i64 f, .int .i64 t] (keyV f' t').cells.toList = some (decide (f = f') && decide (t = t')) := by
  simp [eqVs, keyV, Value.cells, sameB]
  rw [Bool.eq_iff_iff]
  simp
theorem findV_plc (f t : Int) : ∀ (ts : List Tsk) (k i : Nat), ∃ j, findV [0, 0] [.int .i64 f, .int .i64 t] (plcF k ts) i = some ((ts.findIdx? fun x => decide (x.from_ = f) && decide (x.to = t)).map fun n => (j, I ((k + n : Nat) : Int)))
  | [], k, i => ⟨0, rfl⟩
  | x :: ts, k, i => by
    obtain ⟨j, hj⟩ := findV_plc f t ts (k + 1) (i + 1)
    rw [plcF, findV, eqV_key, List.findIdx?_cons]
    by_cases h : f = x.from_ ∧ t = x.to
    · obtain ⟨rfl, rfl⟩ := h
      exact ⟨i, by simp⟩
    · have e1 : (decide (f = x.from_) && decide (t = x.to)) = false := by simpa using h
      have e2 : (decide (x.from_ = f) && decide (x.to = t)) = false := by
        simp
        intro a b
        exact h ⟨a.symm, b.symm⟩
      refine ⟨j, ?_⟩
      rw [e1, e2]
      simp only [hj, Bool.false_eq_true, if_false, Option.map_map]
      congr 2
      funext n
      simp only [Function.comp]
      rw [show k + 1 + n = k + (n + 1) by omega]
theorem plc_new {ts : List Tsk} (hd : (ts.map fun t => (t.from_, t.to)).Nodup) {i : Nat} (h : i < ts.length) : findV [0, 0] [.int .i64 ts[i].from_, .int .i64 ts[i].to] (plcF 0 (ts.take i)) 0 = some none := by
  obtain ⟨j, hj⟩ := findV_plc ts[i].from_ ts[i].to (ts.take i) 0 0
  rw [hj, List.findIdx?_eq_none_iff.2]
  · rfl
  intro x hx
  obtain ⟨m, hm, rfl⟩ := List.mem_iff_getElem.1 hx
  simp at hm
  simp
  intro a b
  have := (List.pairwise_iff_getElem.1 hd) m i (by simp; omega) (by simp; omega) (by omega)
  simp [a, b] at this
theorem plc_succ {ts : List Tsk} {i : Nat} (h : i < ts.length) : plcF 0 (ts.take (i + 1)) = plcF 0 (ts.take i) ++ [(keyV ts[i].from_ ts[i].to, I i)] := by
  rw [List.take_succ_eq_append_getElem h, plc_app]
  simp [plcF]
  omega
set_option maxRecDepth 100000 in
theorem c25 (ts : List Tsk) (hlen : ts.length < 2 ^ 62) (hd : (ts.map fun t => (t.from_, t.to)).Nodup) : FC prog 25 0 [.sl (ts.map Tsk.enc)] [] (ts.length + 1) (fun r σ => r = .mp 0 ∧ σ = [(0, .mp (plcF 0 ts))]) := by
  refine fc_start r25 (by simp) rfl ?_
  simp only [go_sem, m25, Nat.reduceBEq]
  refine loop_use (fun m s => ∃ i n : Nat, i ≤ ts.length ∧ n = i + 1 ∧ m = ts.length - i ∧ s = ⟨[(9, I i), (8, I ts.length), (7, .sl (ts.map Tsk.enc)), (3, .mp 0)], [(0, .mp (plcF 0 (ts.take i)))], n⟩) ts.length _ ⟨0, 1, by omega, rfl, rfl, rfl⟩ (by simp) ?_ ?_
  · refine le_use ?_
    simp only [go_sem, Nat.reduceBEq]
    simp [tsks_lb, lbBx, lb, lbs, plcF]
  · rintro m s ⟨i, n, hi, rfl, rfl, rfl⟩
    have h0n : (0 == i + 1) = false := nb (by omega)
    simp only [go_sem, Nat.reduceBEq]
    refine cond_split (fun hc => ?_) (fun hc => ?_)
    · have hlt : i < ts.length := by simp at hc; omega
      simp only [go_sem, Nat.reduceAdd, Nat.reduceBEq, Nat.reduceLeDiff, Int.toNat_natCast, getD_tsk hlt, List.length_map, Tsk.enc, h0n]
      refine ⟨by omega, mset_use (keyV ts[i].from_ ts[i].to) rfl ⟨rfl, rfl, plc_agg _ _⟩ (plc_new hd hlt) ?_⟩
      rw [← plc_succ hlt]
      simp only [go_sem, Nat.reduceBEq, h0n]
      refine ⟨by unfold InR; omega, ts.length - (i + 1), _, by omega, ⟨i + 1, i + 1 + 1, hlt, rfl, rfl, rfl⟩, by simp, ?_⟩
      refine le_use ?_
      simp only [go_sem, Nat.reduceBEq, h0n]
      refine ⟨⟨by simp, tsks_lb _ _, by simp [lb]⟩, by omega, ?_⟩
      exact plc_lbs _ _ _
    · have hge : i = ts.length := by simp at hc; omega
      subst hge
      simp only [go_sem, Nat.reduceBEq]
      refine keep_use [0] (by simp) (by simp) ?_
      simp [keepL, frz]
end Go.QL
