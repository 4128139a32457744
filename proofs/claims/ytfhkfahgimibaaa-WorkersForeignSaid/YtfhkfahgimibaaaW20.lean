/- Contract: head. -/
import Derived.Test.YtfhkfahgimibaaaW19
namespace Go.QL
open Go.Proofs.Try
theorem c12e (ts : List Tsk) (ss : List Seg) (hts : ts.length ≤ 9223372036854775807) : FP prog 12 [.sl (ts.map Tsk.enc), .sl (ss.map Seg.enc)] (fun x => x = .tup [.agg (mergeS ts ss).1.enc, .vl (.int .i64 (mergeS ts ss).2)]) := FP_sub (c12 ts ss hts) fun _ h => ⟨_, rfl, h⟩
theorem c13e (ts : List Tsk) (ss : List Seg) (hts : ts.length ≤ 9223372036854775807) : FP prog 13 [.sl (ts.map Tsk.enc), .sl (ss.map Seg.enc)] (fun x => x = .tup [.agg (mergeS ts ss).1.enc, .vl (.int .i64 (mergeS ts ss).2)]) := FP_sub (c13 ts ss hts) fun _ h => ⟨_, rfl, h⟩
theorem dropL0 (ks : List Nat) : dropL ks [] = [] := rfl
theorem dropL1 (j : Nat) (x : Bx) (r : List (Nat × Bx)) : dropL [j] ((j, x) :: r) = dropL [j] r := by simp [dropL]
theorem dropL1n {i j : Nat} (h : (i == j) = false) (x : Bx) (r : List (Nat × Bx)) : dropL [j] ((i, x) :: r) = (i, x) :: dropL [j] r := by
  have : ([j] : List Nat).contains i = false := by simpa using h
  rw [dropL, this]
  simp
def hT : List Tsk := [⟨0, 0, 0, 3⟩, ⟨1, 1, 3, 6⟩, ⟨2, 0, 6, 10⟩]
def eS (f t : Int) : Seg := ⟨f, t, 7, 7, []⟩
theorem h_assign : assignOK 0 10 3 2 = true ∧ assignL 0 10 3 2 = hT := by decide
theorem h_assign2 : assignOK 5 7 3 1 = false := by decide
theorem h_m1 : mergeS hT [eS 6 10, eS 0 3, eS 3 6] = (eS 0 10, 0) := by decide
theorem h_m2 : mergeS hT [eS 6 10, eS 0 3] = (zeroS, 4) := by decide
theorem h_m3 : mergeS hT [eS 0 3, eS 0 3] = (zeroS, 5) := by decide
theorem h_m4 : mergeS hT [eS 0 4] = (zeroS, 18) := by decide
theorem h_m5 : mergeS hT [eS 4 3] = (zeroS, 1) := by decide
theorem c10t : FP prog 10 [I 0, I 10, I 3, I 2] (fun x => x = .tup [.sl (hT.map Tsk.enc), I 0]) := by
  have := c10 0 10 3 2
  rwa [if_pos h_assign.1, h_assign.2] at this
theorem c10f : FP prog 10 [I 5, I 7, I 3, I 1] (fun x => x = .tup [.vl (.slice none 0 0), I 1]) := by
  have := c10 5 7 3 1
  rwa [if_neg (by rw [h_assign2]; decide)] at this
set_option maxRecDepth 100000 in
theorem c8 : FP prog 8 [] (fun x => x = B true) := by
  refine fp_start r8 (by simp) ?_
  simp only [go_sem, m8]
  refine call_eq (by simp [lbs, lb]) c10t ?_
  simp only [go_sem, Nat.reduceAdd, Nat.reduceBEq]
  refine ⟨by omega, by omega, call_eq (by simp [lbs, lb]) c10f ?_⟩
  simp only [go_sem, Nat.reduceAdd, Nat.reduceBEq, Nat.reduceLeDiff]
  simp only [go_sem, decide_true, cond_true]
  refine ⟨by omega, by omega, ?_⟩
  refine callV_use rfl (callF_eq [0] [.sl (hT.map Tsk.enc), .sl (hT.map Tsk.enc)] rfl (by simp [lbs, lb, tsks_lb]) (c14 hT hT (by decide)) ?_)
  simp only [go_sem, Nat.reduceBEq, decide_true, Bool.and_self]
  refine call_eq (by simp [lbs, lb]) (c18 6 10) ?_
  simp only [go_sem, Seg.enc, List.map_nil, dropL0, dropL1]
  refine call_eq (by simp [lbs, lb]) (c18 0 3) ?_
  simp only [go_sem, Seg.enc, List.map_nil]
  refine call_eq (by simp [lbs, lb]) (c18 3 6) ?_
  simp only [go_sem, Nat.reduceAdd, Nat.reduceBEq, Nat.reduceLeDiff, Bool.and_self, Seg.enc, List.map_nil]
  refine callF_eq [1] [.sl (hT.map Tsk.enc), .sl (([eS 6 10, eS 0 3, eS 3 6] : List Seg).map Seg.enc)] rfl ⟨tsks_lb 0 _, segs_lb 0 _, trivial⟩ (c12e hT _ (by decide)) ?_
  rw [h_m1]
  simp only [go_sem, Nat.reduceAdd, Nat.reduceBEq, Bool.and_self, Seg.enc, List.map_nil, dropL0, dropL1, eS]
  refine ⟨by omega, by omega, ?_⟩
  refine call_eq (by simp [lbs, lb]) (c18 6 10) ?_
  simp only [go_sem, Seg.enc, List.map_nil]
  refine call_eq (by simp [lbs, lb]) (c18 0 3) ?_
  simp only [go_sem, Nat.reduceAdd, Nat.reduceBEq, Nat.reduceLeDiff, Bool.and_self, Seg.enc, List.map_nil]
  refine callF_eq [3] [.sl (hT.map Tsk.enc), .sl (([eS 6 10, eS 0 3] : List Seg).map Seg.enc)] rfl ⟨tsks_lb 0 _, segs_lb 0 _, trivial⟩ (c12e hT _ (by decide)) ?_
  rw [h_m2]
  simp only [go_sem, Nat.reduceAdd, Nat.reduceBEq, Bool.and_self, Seg.enc, List.map_nil, dropL0, dropL1, dropL1n, zeroS]
  refine ⟨by omega, by omega, ?_⟩
  refine call_eq (by simp [lbs, lb]) (c18 0 3) ?_
  simp only [go_sem, Seg.enc, List.map_nil]
  refine call_eq (by simp [lbs, lb]) (c18 0 3) ?_
  simp only [go_sem, Nat.reduceAdd, Nat.reduceBEq, Nat.reduceLeDiff, Bool.and_self, Seg.enc, List.map_nil]
  refine callF_eq [5] [.sl (hT.map Tsk.enc), .sl (([eS 0 3, eS 0 3] : List Seg).map Seg.enc)] rfl ⟨tsks_lb 0 _, segs_lb 0 _, trivial⟩ (c12e hT _ (by decide)) ?_
  rw [h_m3]
  simp only [go_sem, Nat.reduceAdd, Nat.reduceBEq, Bool.and_self, Seg.enc, List.map_nil, dropL0, dropL1, dropL1n, zeroS]
  refine ⟨by omega, by omega, ?_⟩
  refine call_eq (by simp [lbs, lb]) (c18 0 4) ?_
  simp only [go_sem, Nat.reduceAdd, Nat.reduceBEq, Bool.and_self, Seg.enc, List.map_nil]
  refine callF_eq [7] [.sl (hT.map Tsk.enc), .sl (([eS 0 4] : List Seg).map Seg.enc)] rfl ⟨tsks_lb 0 _, segs_lb 0 _, trivial⟩ (c12e hT _ (by decide)) ?_
  rw [h_m4]
  simp only [go_sem, Nat.reduceAdd, Nat.reduceBEq, Bool.and_self, Seg.enc, List.map_nil, dropL0, dropL1, dropL1n, zeroS]
  refine ⟨by omega, by omega, ?_⟩
  refine call_eq (by simp [lbs, lb]) (c18 4 3) ?_
  simp only [go_sem, Nat.reduceAdd, Nat.reduceBEq, Bool.and_self, Seg.enc, List.map_nil]
  refine callF_eq [9] [.sl (hT.map Tsk.enc), .sl (([eS 4 3] : List Seg).map Seg.enc)] rfl ⟨tsks_lb 0 _, segs_lb 0 _, trivial⟩ (c12e hT _ (by decide)) ?_
  rw [h_m5]
  simp only [go_sem, Nat.reduceAdd, Nat.reduceBEq, decide_true, Bool.and_self, Seg.enc, List.map_nil, dropL0, dropL1, dropL1n, zeroS]
  refine ⟨by omega, by omega, ?_⟩
  refine callG_eq (by simp [lbs, lb]) (fun _ => c18 0 10) ?_
  simp only [go_sem, Nat.reduceBEq, Seg.enc, List.map_nil]
  refine callV_eq (by simp [lbs, lb, lbEs]) (fun _ => c15 (eS 0 10) (eS 0 10) (by decide)) ?_
  simp only [go_sem, Nat.reduceBEq, decide_true, Bool.and_self, eS]
end Go.QL
