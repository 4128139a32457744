/- Contracts: joining segments. -/
import Derived.Test.YtfhkfahgimibaaaW5
namespace Go.QL
open Go.Proofs.Try
def timesP (a b : Seg) : Bool := decide (a.to = b.from_)
def sumsP (a b : Seg) : Bool := decide (a.end_ = b.beg)
theorem c40 (a b : Seg) : FP prog 40 [.agg a.enc, .agg b.enc] (fun x => x = B (timesP a b)) := by
  refine fp_start r40 (by simp) ?_
  simp only [go_sem, m40, Nat.reduceAdd, Nat.reduceBEq, Nat.reduceLeDiff, Seg.enc]
  rfl
theorem c41 (a b : Seg) : FP prog 41 [.agg a.enc, .agg b.enc] (fun x => x = B (sumsP a b)) := by
  refine fp_start r41 (by simp) ?_
  simp only [go_sem, m41, Nat.reduceAdd, Nat.reduceBEq, Nat.reduceLeDiff, Seg.enc]
  rfl
def pairOK (p : Seg → Seg → Bool) (ss : List Seg) (i : Nat) : Bool := match ss[i]?, ss[i + 1]? with
  | some a, some b => p a b
  | _, _ => true
def chainS (p : Seg → Seg → Bool) (ss : List Seg) : Bool := (List.range (ss.length - 1)).all (pairOK p ss)
theorem pairOK_eq {p : Seg → Seg → Bool} {ss : List Seg} {i : Nat} (h : i + 1 < ss.length) : pairOK p ss i = p ss[i] ss[i + 1] := by
  unfold pairOK
  rw [List.getElem?_eq_getElem h, List.getElem?_eq_getElem (show i < ss.length by omega)]
theorem chain_no {p : Seg → Seg → Bool} {ss : List Seg} {i : Nat} (h : i + 1 < ss.length) (hn : pairOK p ss i = false) : chainS p ss = false := by
  unfold chainS
  rw [List.all_eq_false]
  exact ⟨i, by simp; omega, by simp [hn]⟩
set_option maxRecDepth 100000 in
theorem c39 (p : Seg → Seg → Bool) (fi : Nat) (he : Ent prog fi) (hp : ∀ a b : Seg, FP prog fi [.agg a.enc, .agg b.enc] (fun x => x = B (p a b))) (ss : List Seg) (hlen : ss.length < 2 ^ 62) :
    FP prog 39 [.fn (.func fi) [] [], .sl (ss.map Seg.enc)] (fun x => x = B (chainS p ss)) := by
  refine fp_start r39 (by simp) ?_
  simp only [go_sem, m39, Nat.reduceAdd, Nat.reduceBEq, List.length_map]
  refine ⟨by unfold InR; omega, ?_⟩
  refine loop_use (fun m s => ∃ i : Nat, (i = 0 ∨ i ≤ ss.length - 1) ∧ m = ss.length - i ∧ (∀ j, j < i → pairOK p ss j = true) ∧ s = ⟨[(9, I i), (8, I ((ss.length : Int) - 1)), (0, .fn (.func fi) [] []), (1, .sl (ss.map Seg.enc))], [], 0⟩) ss.length _ ⟨0, by omega, rfl, fun j hj => absurd hj (by omega), rfl⟩ (by simp) ?_ ?_
  · refine le_use ?_
    simp only [go_sem, Nat.reduceBEq]
    simp [segs_lb]
  · rintro m s ⟨i, hi, rfl, hok, rfl⟩
    simp only [go_sem, Nat.reduceBEq]
    refine cond_split (fun hc => ?_) (fun hc => ?_)
    · have hlt : i + 1 < ss.length := by simp at hc; omega
      have hg : (ss.map Seg.enc).getD ((i : Int) + 1).toNat [] = ss[i + 1].enc := by
        rw [show ((i : Int) + 1).toNat = i + 1 from by omega]
        exact getD_seg hlt
      simp only [go_sem, Nat.reduceBEq, Int.toNat_natCast, getD_seg (show i < ss.length by omega), hg, List.length_map, Seg.len_enc]
      rw [show List.take 5 ss[i].enc = ss[i].enc from rfl, show List.take 5 ss[i + 1].enc = ss[i + 1].enc from rfl]
      refine ⟨⟨by omega, by omega⟩, by unfold InR; omega, ⟨by omega, by omega⟩, he, ?_⟩
      refine call_eq (by simp [lbs, lb, Seg.lbs_enc]) (hp _ _) ?_
      simp only [go_sem]
      refine cond_split (fun hd => ?_) (fun hd => ?_)
      · simp only [go_sem]
        rw [chain_no hlt (by rw [pairOK_eq hlt]; simpa using hd)]
      · simp only [go_sem, Nat.reduceBEq]
        refine ⟨by unfold InR; omega, ss.length - (i + 1), _, by omega, ⟨i + 1, by omega, rfl, fun j hj => ?_, rfl⟩, by simp, ?_⟩
        · by_cases e : j = i
          · subst e
            rw [pairOK_eq hlt]
            simpa using hd
          · exact hok j (by omega)
        · refine le_use ?_
          simp only [go_sem, Nat.reduceBEq]
          simp [segs_lb]
    · have : chainS p ss = true := by
        unfold chainS
        rw [List.all_eq_true]
        intro j hj
        simp at hj hc
        exact hok j (by omega)
      simp only [go_sem, this]
theorem c39t (ss : List Seg) (hlen : ss.length < 2 ^ 62) : FP prog 39 [.fn (.func 40) [] [], .sl (ss.map Seg.enc)] (fun x => x = B (chainS timesP ss)) := c39 _ 40 r40.ent c40 ss hlen
theorem c39s (ss : List Seg) (hlen : ss.length < 2 ^ 62) : FP prog 39 [.fn (.func 41) [] [], .sl (ss.map Seg.enc)] (fun x => x = B (chainS sumsP ss)) := c39 _ 41 r41.ent c41 ss hlen
def zeroS : Seg := ⟨0, 0, 0, 0, []⟩
def joined (ss : List Seg) : Seg := ⟨(ss.head?.map Seg.from_).getD 0, (ss.getLast?.map Seg.to).getD 0, (ss.head?.map Seg.beg).getD 0, (ss.getLast?.map Seg.end_).getD 0, ss.flatMap Seg.rs⟩
def joinS (ss : List Seg) : Seg × Int :=
  if ss.length = 0 ∨ 32 < ss.length then (zeroS, 1)
  else if ss.all validS = false then (zeroS, 1)
  else if chainS timesP ss = false then (zeroS, 18)
  else if chainS sumsP ss = false then (zeroS, 11)
  else if 5000 < (ss.flatMap Seg.rs).length then (zeroS, 2)
  else (joined ss, 0)
end Go.QL
