/- Contract: workers.Assign. -/
import Derived.Test.YtfhkfahgimibaaaW1
namespace Go.QL
open Go.Proofs.Try
structure Tsk where
  num : Int
  wk : Int
  from_ : Int
  to : Int
  deriving DecidableEq
def Tsk.enc (x : Tsk) : List AV := [I x.num, I x.wk, I x.from_, I x.to]
def assignL (f t p w : Int) : List Tsk := (List.range p.toNat).map fun (k : Nat) => ⟨k, (k : Int).tmod w, atV f t p k, atV f t p ((k : Int) + 1)⟩
def assignOK (f t p w : Int) : Bool := decide (0 ≤ f) && decide (f ≤ 10000000) && (decide (0 ≤ t) && decide (t ≤ 10000000)) && (decide (1 ≤ w) && decide (w ≤ 8)) && (decide (1 ≤ p) && decide (p ≤ min 32 (t - f)))
theorem c10 (f t p w : Int) : FP prog 10 [I f, I t, I p, I w] (fun x => x = if assignOK f t p w then .tup [.sl ((assignL f t p w).map Tsk.enc), I 0] else .tup [.vl (.slice none 0 0), I 1]) := by
  refine fp_start r10 (by simp) ?_
  simp only [go_sem, m10, Nat.reduceAdd, Nat.reduceBEq]
  refine call_eq (by simp [lbs, lb]) (c20 _ _ _) ?_
  simp only [go_sem, Nat.reduceBEq]
  refine callV_eq (by simp [lbs, lb]) (fun _ => c20 _ _ _) ?_
  simp only [go_sem, Nat.reduceBEq]
  refine callV_eq (by simp [lbs, lb]) (fun _ => c20 _ _ _) ?_
  simp only [go_sem, Nat.reduceBEq]
  refine ⟨fun h => ?_, ?_⟩
  · simp at h
    unfold InR
    omega
  refine callV_eq (by simp [lbs, lb]) (fun _ => c20 _ _ _) ?_
  simp only [go_sem, Nat.reduceBEq]
  refine cond_split (fun hc => ?_) (fun hc => ?_)
  · simp only [go_sem, Nat.reduceBEq]
    have : assignOK f t p w = false := by
      unfold assignOK
      rw [Bool.eq_false_iff]
      intro h
      simp at hc h
      omega
    simp [this]
  · have hok : assignOK f t p w = true := by
      unfold assignOK
      simpa using hc
    have hok' := hok
    simp only [assignOK, Bool.and_eq_true, decide_eq_true_eq] at hok'
    obtain ⟨⟨⟨⟨hf0, hf1⟩, ht0, ht1⟩, hw0, hw1⟩, hp0, hp1⟩ := hok'
    have hp2 : p ≤ 32 := by omega
    have hp3 : p ≤ t - f := by omega
    simp only [go_sem, Nat.reduceAdd, Nat.reduceBEq]
    refine callB_use [] _ [] 4 _ rfl (by simp [lbs, lb]) (by simp) (by simp) (by simp) (by simp [bxs]) (c21 f t p) ?_
    rintro r σ' ⟨rfl, rfl⟩
    refine ⟨by simp [divF, lb, lbs], by simp [bxl, divσ, atσ, lbBx, lb, lbs], ?_⟩
    simp only [go_sem, Nat.reduceAdd, Nat.reduceSub, divF, divσ, atσ]
    have hz : ∀ i : Nat, (((assignL f t p w).take i).map Tsk.enc).flatten.length = min i p.toNat * 4 := by
      intro i
      induction i with
      | zero => simp
      | succ i ih =>
        by_cases h : i < p.toNat
        · rw [List.take_succ_eq_append_getElem (by simp [assignL]; omega), List.map_append, List.flatten_append, List.length_append, ih]
          simp [Tsk.enc]
          omega
        · rw [List.take_of_length_le (by simp [assignL]; omega)] at ih ⊢
          rw [ih]
          congr 1
          omega
    have hlbs : ∀ m i, lbs m (List.map Tsk.enc (List.take i (assignL f t p w))).flatten := by
      intro m i
      refine (lbs_iff _ _).2 fun x hx => ?_
      simp only [List.mem_flatten, List.mem_map] at hx
      obtain ⟨y, ⟨z, _, rfl⟩, hx⟩ := hx
      simp only [Tsk.enc, List.mem_cons, List.not_mem_nil, or_false] at hx
      rcases hx with rfl | rfl | rfl | rfl <;> simp [lb]
    refine rng_use 37 [.ptr 4 0, .ptr 5 0] (by simp only [go_sem]) r37.ent [2, 3, 4, 5] [.ptr 2 0, .ptr 3 0] (divσ f t p) (divXs f t p) [(10, .ptr 1 0), (7, .ptr 0 0)]
      (fun rest σ n => ∃ i l, i ≤ p.toNat ∧ 1 < l ∧ l < n ∧ rest = (divXs f t p).drop i ∧ σ = obx l i (((assignL f t p w).take i).map Tsk.enc).flatten ++ [(1, .cs [olst 4 l i]), (0, .cs [I w])]) [(1, .cs [.vl (.slice none 0 0)]), (0, .cs [I w])] 6
      rfl (by simp [lbs, lb]) (by simp) (by simp) (by simp [bxs, divσ, atσ, lbBx, lbs, lb, look, renBx, rens, ren]) (c37 f t p hf0 (by omega) ht1 hp0 hp2) ?_ ⟨0, 2, by omega, by omega, by omega, rfl, by simp [obx, olst]⟩ (by simp) ?_ ?_ ?_
    · intro x hx
      obtain ⟨k, hk, rfl⟩ := List.mem_map.1 hx
      simp [lbs, lb]
    · refine le_use ?_
      simp only [go_sem, Nat.reduceBEq, divσ, atσ]
      simp [lbBx, lb, lbs, dropL, look]
    · rintro x rest σ n ⟨i, l, hi, hl1, hln, hrest, rfl⟩ hxl hx0
      have hilt : i < p.toNat := by
        refine Classical.byContradiction fun h => ?_
        rw [List.drop_of_length_le (by simp [divXs]; omega)] at hrest
        cases hrest
      have e1 : (divXs f t p).drop i = [I (i : Int), .agg [I (atV f t p i), I (atV f t p ((i : Int) + 1))]] :: (divXs f t p).drop (i + 1) := by
        rw [List.drop_eq_getElem_cons (by simp [divXs]; omega)]
        simp [divXs]
      rw [e1] at hrest
      obtain ⟨rfl, rfl⟩ := List.cons.inj hrest
      have hb0 : (0 == l) = false := nb (by omega)
      have hb1 : (1 == l) = false := nb (by omega)
      have hbn : (n == l) = false := nb (by omega)
      have hb1n : (1 == n) = false := nb (by omega)
      have hb0n : (0 == n) = false := nb (by omega)
      simp only [go_sem, Nat.reduceAdd, Nat.reduceBEq, Nat.reduceLeDiff, look_obx hb0, look_obx hb1, hb1n, hb0n]
      refine ⟨by omega, app_own (by rw [hz i, Nat.min_eq_left hi]) (fun h0 => ?_) (by unfold maxLen; omega) (by omega) ?_⟩
      · have : (l == n) = false := by simp; omega
        have : (l == n + 1) = false := by simp; omega
        simp only [look_miss, look_self h0, *]
      have hln' : (l == n) = false := nb (by omega)
      have hln1 : (l == n + 1) = false := nb (by omega)
      have h1n2 : (1 == n + 1 + 1) = false := nb (by omega)
      have h1n1 : (1 == n + 1) = false := nb (by omega)
      have h0n2 : (0 == n + 1 + 1) = false := nb (by omega)
      have h0n1 : (0 == n + 1) = false := nb (by omega)
      have hbn0 : ∀ x, look [(1, Bx.cs [olst 4 l i]), (0, Bx.cs [I w])] l ≠ some x := by
        intro x
        simp [look, show ¬ l = 1 by omega, show ¬ l = 0 by omega]
      simp only [go_sem, Nat.reduceBEq, erax_cons hln', erax_cons hln1, erax_obx hbn0, hb1n, h1n2, h1n1]
      have e2 : (List.map Tsk.enc (List.take (i + 1) (assignL f t p w))).flatten = (List.map Tsk.enc (List.take i (assignL f t p w))).flatten ++ [AV.vl (Value.int IntKind.i64 (i : Int)), AV.vl (Value.int IntKind.i64 ((i : Int).tmod w)),
          AV.vl (Value.int IntKind.i64 (atV f t p i)), AV.vl (Value.int IntKind.i64 (atV f t p ((i : Int) + 1)))] := by
        rw [List.take_succ_eq_append_getElem (by simp [assignL]; omega), List.map_append, List.flatten_append]
        simp [assignL, Tsk.enc]
      refine ⟨_, n + 1 + 1 + 1, ⟨i + 1, n + 1 + 1, hilt, by omega, by omega, rfl, rfl⟩, by omega, ?_⟩
      refine le_use ?_
      rw [obx_pos, olst_pos, e2]
      simp only [go_sem, Nat.reduceBEq, hb1n, hb0n, h1n2, h1n1, h0n2, h0n1]
      refine ⟨⟨by simp [lb], by simp [lb]⟩, by omega, ?_, by omega, by simp [lbBx, lbs, lb], by omega, by simp [lbBx, lbs, lb]⟩
      rw [← e2]
      exact hlbs _ _
    · rintro σ n ⟨i, l, hi, hl1, hln, hrest, rfl⟩
      have hieq : i = p.toNat := by
        refine Classical.byContradiction fun h => ?_
        have := congrArg List.length hrest
        simp [divXs] at this
        omega
      have hi0 : 0 < i := by omega
      have hb1 : (1 == l) = false := nb (by omega)
      have hb0 : (0 == l) = false := nb (by omega)
      have etk : (assignL f t p w).take i = assignL f t p w := List.take_of_length_le (by simp [assignL]; omega)
      simp only [go_sem, Nat.reduceBEq, look_obx hb1]
      have hlen : (List.map Tsk.enc (assignL f t p w)).length = i := by simp [assignL, hieq]
      rw [etk, ← hlen, frz_rows (fun h => look_self h _ _) (by simp [Tsk.enc]) (by
        intro e he
        obtain ⟨x, _, rfl⟩ := List.mem_map.1 he
        simp [Tsk.enc, frz])]
      rw [if_neg (by omega)]
      refine ⟨(lbEs_iff _ _).2 fun e he => ?_, by rw [if_pos hok]⟩
      obtain ⟨x, _, rfl⟩ := List.mem_map.1 he
      simp [Tsk.enc, lbs, lb]
end Go.QL
