/- The law WorkersMatchesReference. -/
import Derived.Test.YtfhkfahgimibaaaW20
namespace Go.QL
open Go.Proofs.Try
def assignR (f t p w : Int) : List Tsk × Int := if assignOK f t p w then (assignL f t p w, 0) else ([], 1)
theorem assignR_to (f t p w : Int) : avle (if assignOK f t p w then .tup [.sl ((assignL f t p w).map Tsk.enc), I 0] else .tup [.vl (.slice none 0 0), I 1]) (.tup [.sl ((assignR f t p w).1.map Tsk.enc), I (assignR f t p w).2]) := by
  unfold assignR
  split
  · exact avle_refl _
  · exact avle_tup ⟨avle_nil, avle_refl _, trivial⟩
theorem c10e (f t p w : Int) : FP prog 10 [I f, I t, I p, I w] (fun x => x = .tup [.sl ((assignR f t p w).1.map Tsk.enc), I (assignR f t p w).2]) := FP_sub (c10 f t p w) fun _ h => ⟨_, rfl, h ▸ assignR_to f t p w⟩
theorem c11e (f t p w : Int) : FP prog 11 [I f, I t, I p, I w] (fun x => x = .tup [.sl ((assignR f t p w).1.map Tsk.enc), I (assignR f t p w).2]) := FP_sub (c11 f t p w) fun _ h => ⟨_, rfl, h ▸ assignR_to f t p w⟩
theorem assignR_len (f t p w : Int) : (assignR f t p w).1.length ≤ 32 := by
  unfold assignR
  split
  · rename_i h
    simp only [assignOK, Bool.and_eq_true, decide_eq_true_eq] at h
    simp [assignL]
    omega
  · simp
theorem joinS_rs (ss : List Seg) : (joinS ss).1.rs.length ≤ 5000 := by
  unfold joinS
  repeat' split
  all_goals first | (simp [zeroS]; done) | (simp only [joined]; omega)
theorem mergeS_rs (ts : List Tsk) (ss : List Seg) : (mergeS ts ss).1.rs.length ≤ 5000 := by
  unfold mergeS
  repeat' split
  all_goals first | (simp [zeroS]; done) | exact joinS_rs _
set_option maxRecDepth 100000 in
theorem c3 (f t p w : Int) (ts : List Tsk) (ss : List Seg) (hts : ts.length ≤ 9223372036854775807) (hss : ss.length ≤ 9223372036854775807) : FP prog 3 [I f, I t, I p, I w, .sl (ts.map Tsk.enc), .sl (ss.map Seg.enc)] (fun x => x = B true) := by
  refine fp_start r3 (by simp) ?_
  simp only [go_sem, m3, Nat.reduceAdd]
  refine call_eq (by simp [lbs]) c8 ?_
  simp only [go_sem, Nat.reduceBEq]
  refine call_eq (by simp [lbs, lb, tsks_lb, segs_lb]) (c9 ts ss hss) ?_
  simp only [go_sem]
  refine cond_split (fun hc => ?_) (fun hc => ?_)
  · simp only [go_sem, Nat.reduceBEq]
  simp only [go_sem, Nat.reduceBEq]
  refine call_eq (by simp [lbs, lb]) (c10e f t p w) ?_
  simp only [go_sem, Nat.reduceAdd, Nat.reduceBEq]
  refine ⟨by omega, by omega, call_eq (by simp [lbs, lb]) (c11e f t p w) ?_⟩
  simp only [go_sem, Nat.reduceAdd, Nat.reduceBEq]
  refine ⟨by omega, by omega, call_eq (by simp [lbs, lb, tsks_lb, segs_lb]) (c12e ts ss hts) ?_⟩
  simp only [go_sem, Nat.reduceAdd, Nat.reduceBEq]
  refine ⟨by omega, by omega, ⟨rfl, by simp [Seg.enc, AV.isCell, Value.oneCell']⟩, call_eq (by simp [lbs, lb, tsks_lb, segs_lb]) (c13e ts ss hts) ?_⟩
  simp only [go_sem, Nat.reduceAdd, Nat.reduceBEq]
  refine ⟨by omega, by omega, ⟨rfl, by simp [Seg.enc, AV.isCell, Value.oneCell']⟩, ?_⟩
  refine callV_eq (by simp [lbs, lb, tsks_lb]) (fun _ => c14 _ _ (by have := assignR_len f t p w; omega)) ?_
  simp only [go_sem, Nat.reduceBEq]
  rw [show List.take 5 (mergeS ts ss).1.enc = (mergeS ts ss).1.enc from rfl]
  refine ⟨fun _ => Nat.le_refl 5, fun _ => Nat.le_refl 5, callV_eq (by simp [lbs, lb, Seg.lbs_enc]) (fun _ => c15 _ _ (by have := mergeS_rs ts ss; omega)) ?_⟩
  simp only [go_sem, Nat.reduceBEq, decide_true, Bool.and_self]
end Go.QL
