/- Contracts: comparisons, lists of tasks. -/
import Derived.Test.YtfhkfahgimibaaaW4
namespace Go.QL
open Go.Proofs.Try
theorem c22 (n : Int) : FP prog 22 [I n] (fun x => x = B (decide (0 ≤ n) && decide (n ≤ 10000000))) := by
  refine fp_start r22 (by simp) ?_
  simp only [go_sem, m22, Nat.reduceBEq]
theorem Rec.beq (x y : Rec) : (x.at_ == y.at_ && (x.kind == y.kind && (x.a == y.a && (x.flow == y.flow && (x.sub == y.sub && (x.num == y.num && (x.data == y.data && (x.size == y.size && (x.sent == y.sent && (x.able == y.able && x.marked == y.marked)))))))))) = decide (x = y) := by
  obtain ⟨a1, a2, a3, a4, a5, a6, a7, a8, a9, a10, a11⟩ := x
  obtain ⟨b1, b2, b3, b4, b5, b6, b7, b8, b9, b10, b11⟩ := y
  rw [Bool.eq_iff_iff]
  simp
theorem Tsk.beq (x y : Tsk) : (x.num == y.num && (x.wk == y.wk && (x.from_ == y.from_ && x.to == y.to))) = decide (x = y) := by
  obtain ⟨a1, a2, a3, a4⟩ := x
  obtain ⟨b1, b2, b3, b4⟩ := y
  rw [Bool.eq_iff_iff]
  simp
theorem ne_at {α : Type} {a b : List α} {i : Nat} {h : i < a.length} {h' : i < b.length} (hn : a[i] ≠ b[i]) : a ≠ b := by
  intro e
  subst e
  exact hn rfl
theorem eq_all {α : Type} {a b : List α} (hl : a.length = b.length) (h : ∀ j, (hj : j < a.length) → a[j] = b[j]'(hl ▸ hj)) : a = b := List.ext_getElem hl fun i h1 h2 => h i h1
theorem c34 (a b : List Rec) (hlen : a.length < 2 ^ 62) : FP prog 34 [.sl (a.map Rec.enc), .sl (b.map Rec.enc)] (fun x => x = B (decide (a = b))) := by
  refine fp_start r34 (by simp) ?_
  simp only [go_sem, m34, Nat.reduceAdd, Nat.reduceBEq]
  refine cond_split (fun hc => ?_) (fun hc => ?_)
  · have hne : ¬ a = b := by
      intro e
      subst e
      simp at hc
    simp only [go_sem, hne, decide_false]
  · have hl : a.length = b.length := by simp at hc; omega
    simp only [go_sem]
    refine loop_use (fun m s => ∃ i : Nat, i ≤ a.length ∧ m = a.length - i ∧ (∀ j, (hj : j < i) → (hja : j < a.length) → a[j] = b[j]'(hl ▸ hja)) ∧ s = ⟨[(5, I i), (0, .sl (a.map Rec.enc)), (1, .sl (b.map Rec.enc))], [], 0⟩) a.length _ ⟨0, by omega, rfl, fun j hj => absurd hj (by omega), rfl⟩ (by simp) ?_ ?_
    · refine le_use ?_
      simp only [go_sem, Nat.reduceBEq]
      simp [recs_lb]
    · rintro m s ⟨i, hi, rfl, hok, rfl⟩
      simp only [go_sem, Nat.reduceBEq]
      refine cond_split (fun hc => ?_) (fun hc => ?_)
      · have hlt : i < a.length := by simp at hc; omega
        have hltb : i < b.length := by omega
        simp only [go_sem, Nat.reduceAdd, Nat.reduceBEq, Int.toNat_natCast, getD_enc hlt, getD_enc hltb, List.length_map, Rec.enc]
        refine ⟨⟨by omega, by omega⟩, ⟨by omega, by omega⟩, ?_⟩
        rw [Rec.beq a[i] b[i]]
        refine cond_split (fun hc => ?_) (fun hc => ?_)
        · have hne : ¬ a = b := ne_at (h := hlt) (h' := hltb) (by simpa using hc)
          simp only [go_sem, hne, decide_false]
        · simp only [go_sem, Nat.reduceBEq]
          refine ⟨by unfold InR; omega, a.length - (i + 1), _, by omega, ⟨i + 1, hlt, rfl, fun j hj hja => ?_, rfl⟩, by simp, ?_⟩
          · by_cases e : j = i
            · subst e
              simpa using hc
            · exact hok j (by omega) hja
          · refine le_use ?_
            simp only [go_sem, Nat.reduceBEq]
            simp [recs_lb]
      · have hge : i = a.length := by simp at hc; omega
        subst hge
        have : a = b := eq_all hl fun j hj => hok j hj hj
        simp only [go_sem, this, decide_true]
theorem Tsk.lbs_enc (n : Nat) (r : Tsk) : lbs n r.enc := by simp [Tsk.enc, lbs, lb]
theorem Tsk.len_enc (r : Tsk) : r.enc.length = 4 := rfl
theorem tsks_lb (n : Nat) (ts : List Tsk) : lbEs n (ts.map Tsk.enc) := (lbEs_iff _ _).2 fun e he => by
  obtain ⟨r, _, rfl⟩ := List.mem_map.1 he
  exact r.lbs_enc n
theorem getD_tsk {ts : List Tsk} {i : Nat} (h : i < ts.length) : (ts.map Tsk.enc).getD i [] = ts[i].enc := by simp [List.getD_eq_getElem?_getD, h]
theorem c14 (a b : List Tsk) (hlen : a.length < 2 ^ 62) : FP prog 14 [.sl (a.map Tsk.enc), .sl (b.map Tsk.enc)] (fun x => x = B (decide (a = b))) := by
  refine fp_start r14 (by simp) ?_
  simp only [go_sem, m14, Nat.reduceAdd, Nat.reduceBEq]
  refine cond_split (fun hc => ?_) (fun hc => ?_)
  · have hne : ¬ a = b := by
      intro e
      subst e
      simp at hc
    simp only [go_sem, hne, decide_false]
  · have hl : a.length = b.length := by simp at hc; omega
    simp only [go_sem]
    refine loop_use (fun m s => ∃ i : Nat, i ≤ a.length ∧ m = a.length - i ∧ (∀ j, (hj : j < i) → (hja : j < a.length) → a[j] = b[j]'(hl ▸ hja)) ∧ s = ⟨[(5, I i), (0, .sl (a.map Tsk.enc)), (1, .sl (b.map Tsk.enc))], [], 0⟩) a.length _ ⟨0, by omega, rfl, fun j hj => absurd hj (by omega), rfl⟩ (by simp) ?_ ?_
    · refine le_use ?_
      simp only [go_sem, Nat.reduceBEq]
      simp [tsks_lb]
    · rintro m s ⟨i, hi, rfl, hok, rfl⟩
      simp only [go_sem, Nat.reduceBEq]
      refine cond_split (fun hc => ?_) (fun hc => ?_)
      · have hlt : i < a.length := by simp at hc; omega
        have hltb : i < b.length := by omega
        simp only [go_sem, Nat.reduceAdd, Nat.reduceBEq, Int.toNat_natCast, getD_tsk hlt, getD_tsk hltb, List.length_map, Tsk.enc]
        refine ⟨⟨by omega, by omega⟩, ⟨by omega, by omega⟩, ?_⟩
        rw [Tsk.beq a[i] b[i]]
        refine cond_split (fun hc => ?_) (fun hc => ?_)
        · have hne : ¬ a = b := ne_at (h := hlt) (h' := hltb) (by simpa using hc)
          simp only [go_sem, hne, decide_false]
        · simp only [go_sem, Nat.reduceBEq]
          refine ⟨by unfold InR; omega, a.length - (i + 1), _, by omega, ⟨i + 1, hlt, rfl, fun j hj hja => ?_, rfl⟩, by simp, ?_⟩
          · by_cases e : j = i
            · subst e
              simpa using hc
            · exact hok j (by omega) hja
          · refine le_use ?_
            simp only [go_sem, Nat.reduceBEq]
            simp [tsks_lb]
      · have hge : i = a.length := by simp at hc; omega
        subst hge
        have : a = b := eq_all hl fun j hj => hok j hj hj
        simp only [go_sem, this, decide_true]
theorem c15 (a b : Seg) (hlen : a.rs.length < 2 ^ 62) : FP prog 15 [.agg a.enc, .agg b.enc] (fun x => x = B (decide (a = b))) := by
  refine fp_start r15 (by simp) ?_
  simp only [go_sem, m15, Nat.reduceAdd, Nat.reduceBEq, Nat.reduceLeDiff, Seg.enc]
  refine callV_eq (by simp [lbs, lb, recs_lb]) (fun _ => c34 _ _ hlen) ?_
  simp only [go_sem, Nat.reduceBEq]
  obtain ⟨a1, a2, a3, a4, a5⟩ := a
  obtain ⟨b1, b2, b3, b4, b5⟩ := b
  congr 2
  rw [Bool.eq_iff_iff]
  simp [and_assoc]
theorem c18 (f t : Int) : FP prog 18 [I f, I t] (fun x => x = .agg (Seg.enc ⟨f, t, 7, 7, []⟩)) := by
  refine FP_le (r := .agg [I f, I t, U 7, U 7, .vl (.slice none 0 0)]) (fp_start r18 (by simp) ?_) (avle_agg ⟨avle_refl _, avle_refl _, avle_refl _, avle_refl _, avle_nil, trivial⟩)
  simp only [go_sem, m18, Nat.reduceAdd, Nat.reduceBEq, Nat.reduceLeDiff]
theorem c19 (s : Seg) : FP prog 19 [.agg s.enc] (fun x => x = B (decide (s.rs.length ≤ 5100))) := by
  refine fp_start r19 (by simp) ?_
  simp only [go_sem, m19, Nat.reduceAdd, Nat.reduceBEq, Seg.enc, List.length_map]
  congr 2
  rw [Bool.eq_iff_iff]
  simp
  omega
theorem Seg.len_enc (s : Seg) : s.enc.length = 5 := rfl
theorem segs_lb (n : Nat) (ss : List Seg) : lbEs n (ss.map Seg.enc) := (lbEs_iff _ _).2 fun e he => by
  obtain ⟨r, _, rfl⟩ := List.mem_map.1 he
  exact r.lbs_enc n
theorem getD_seg {ss : List Seg} {i : Nat} (h : i < ss.length) : (ss.map Seg.enc).getD i [] = ss[i].enc := by simp [List.getD_eq_getElem?_getD, h]
def fewS (ts : List Tsk) (ss : List Seg) : Bool := ss.all (fun s => decide (s.rs.length ≤ 5100)) && decide (ts.length ≤ 40) && decide (ss.length ≤ 40)
theorem c9 (ts : List Tsk) (ss : List Seg) (hlen : ss.length ≤ 9223372036854775807) : FP prog 9 [.sl (ts.map Tsk.enc), .sl (ss.map Seg.enc)] (fun x => x = B (fewS ts ss)) := by
  refine fp_start r9 (by simp) ?_
  simp only [go_sem, m9, Nat.reduceAdd]
  refine loop_use (fun m s => ∃ i : Nat, i ≤ ss.length ∧ m = ss.length - i ∧ (∀ j, (h : j < i) → (hj : j < ss.length) → ss[j].rs.length ≤ 5100) ∧ s = ⟨[(5, I i), (4, B false), (0, .sl (ts.map Tsk.enc)), (1, .sl (ss.map Seg.enc))], [], 0⟩) ss.length _ ⟨0, by omega, rfl, fun j hj => absurd hj (by omega), rfl⟩ (by simp) ?_ ?_
  · refine le_use ?_
    simp only [go_sem, Nat.reduceBEq]
    simp [tsks_lb, segs_lb]
  · rintro m s ⟨i, hi, rfl, hok, rfl⟩
    simp only [go_sem, Nat.reduceBEq]
    refine cond_split (fun hc => ?_) (fun hc => ?_)
    · have hlt : i < ss.length := by simp at hc; omega
      simp only [go_sem, Nat.reduceBEq, Int.toNat_natCast, getD_seg hlt, List.length_map, Seg.len_enc]
      rw [show List.take 5 ss[i].enc = ss[i].enc from rfl]
      refine ⟨⟨by omega, by omega⟩, call_eq (by simp [lbs, lb, Seg.lbs_enc]) (c19 _) ?_⟩
      simp only [go_sem]
      refine cond_split (fun hd => ?_) (fun hd => ?_)
      · simp only [go_sem]
        have : ss.all (fun s => decide (s.rs.length ≤ 5100)) = false := by
          rw [List.all_eq_false]
          exact ⟨ss[i], List.getElem_mem hlt, by simpa using hd⟩
        simp [fewS, this]
      · simp only [go_sem, Nat.reduceBEq]
        refine ⟨by unfold InR; omega, ss.length - (i + 1), _, by omega, ⟨i + 1, hlt, rfl, fun j hj hja => ?_, rfl⟩, by simp, ?_⟩
        · by_cases e : j = i
          · subst e
            simpa using hd
          · exact hok j (by omega) hja
        · refine le_use ?_
          simp only [go_sem, Nat.reduceBEq]
          simp [tsks_lb, segs_lb]
    · have hge : i = ss.length := by simp at hc; omega
      subst hge
      have : ss.all (fun s => decide (s.rs.length ≤ 5100)) = true := by
        rw [List.all_eq_true]
        intro s hs
        obtain ⟨j, hj, rfl⟩ := List.mem_iff_getElem.1 hs
        simpa using hok j hj hj
      simp only [go_sem, Nat.reduceBEq, fewS, this, List.length_map]
      congr 2
      rw [Bool.eq_iff_iff]
      simp
      omega
/-- A task is one of a list. -/
def taskOK (ts : List Tsk) (i : Nat) : Bool := match ts[i]? with
  | some t => decide (t.num = i) && decide (0 ≤ t.wk) && decide (t.wk ≤ 7) && decide (0 ≤ t.from_) && decide (t.from_ < t.to) && decide (t.to ≤ 10000000) && decide (i = 0 ∨ ∃ u, ts[i - 1]? = some u ∧ u.to = t.from_)
  | none => true
def listS (ts : List Tsk) : Bool := (List.range ts.length).all (taskOK ts) && decide (1 ≤ ts.length) && decide (ts.length ≤ 32)
theorem taskOK_eq {ts : List Tsk} {i : Nat} (h : i < ts.length) : taskOK ts i = true ↔ ts[i].num = i ∧ 0 ≤ ts[i].wk ∧ ts[i].wk ≤ 7 ∧ 0 ≤ ts[i].from_ ∧ ts[i].from_ < ts[i].to ∧ ts[i].to ≤ 10000000 ∧ (i = 0 ∨ ts[i - 1].to = ts[i].from_) := by
  unfold taskOK
  rw [List.getElem?_eq_getElem h, List.getElem?_eq_getElem (show i - 1 < ts.length by omega)]
  simp [and_assoc]
theorem list_no {ts : List Tsk} {i : Nat} (h : i < ts.length) (hn : ¬ taskOK ts i = true) : listS ts = false := by
  have : (List.range ts.length).all (taskOK ts) = false := by
    rw [List.all_eq_false]
    exact ⟨i, by simpa using h, hn⟩
  simp [listS, this]
set_option maxRecDepth 100000 in
theorem c30 (ts : List Tsk) (hlen : ts.length ≤ 9223372036854775807) : FP prog 30 [.sl (ts.map Tsk.enc)] (fun x => x = B (listS ts)) := by
  refine fp_start r30 (by simp) ?_
  simp only [go_sem, m30]
  refine loop_use (fun m s => ∃ i : Nat, i ≤ ts.length ∧ m = ts.length - i ∧ (∀ j, j < i → taskOK ts j = true) ∧ s = ⟨[(3, I i), (0, .sl (ts.map Tsk.enc))], [], 0⟩) ts.length _ ⟨0, by omega, rfl, fun j hj => absurd hj (by omega), rfl⟩ (by simp) ?_ ?_
  · refine le_use ?_
    simp only [go_sem, Nat.reduceBEq]
    simp [tsks_lb]
  · rintro m s ⟨i, hi, rfl, hok, rfl⟩
    simp only [go_sem, Nat.reduceBEq]
    refine cond_split (fun hc => ?_) (fun hc => ?_)
    · have hlt : i < ts.length := by simp at hc; omega
      have hg : (ts.map Tsk.enc).getD ((i : Int) - 1).toNat [] = ts[i - 1].enc := by
        rw [show ((i : Int) - 1).toNat = i - 1 from by omega]
        exact getD_tsk (by omega)
      simp only [go_sem, Nat.reduceAdd, Nat.reduceBEq, Nat.reduceLeDiff, Int.toNat_natCast, getD_tsk hlt, List.length_map, Tsk.enc]
      refine ⟨⟨by omega, by omega⟩, call_eq (by simp [lbs, lb]) (c22 _) ?_⟩
      simp only [go_sem, Nat.reduceAdd, Nat.reduceBEq]
      refine call_eq (by simp [lbs, lb]) (c22 _) ?_
      simp only [go_sem, Nat.reduceAdd, Nat.reduceBEq, Nat.reduceLeDiff]
      refine cond_split (fun hd => ?_) (fun hd => ?_)
      · simp only [go_sem]
        rw [list_no hlt]
        rw [taskOK_eq hlt]
        simp at hd
        omega
      · simp at hd
        simp only [go_sem, Nat.reduceAdd, Nat.reduceBEq, Nat.reduceLeDiff, List.length_map, Tsk.enc, hg]
        refine ⟨fun _ => by unfold InR; omega, fun h => ?_, ?_⟩
        · simp at h
          omega
        refine cond_split (fun he => ?_) (fun he => ?_)
        · simp only [go_sem]
          rw [list_no hlt]
          rw [taskOK_eq hlt]
          simp at he
          omega
        · have hti : taskOK ts i = true := by
            rw [taskOK_eq hlt]
            simp at he
            omega
          simp only [go_sem, Nat.reduceBEq]
          refine ⟨by unfold InR; omega, ts.length - (i + 1), _, by omega, ⟨i + 1, hlt, rfl, fun j hj => ?_, rfl⟩, by simp, ?_⟩
          · by_cases e : j = i
            · subst e
              exact hti
            · exact hok j (by omega)
          · refine le_use ?_
            simp only [go_sem, Nat.reduceBEq, Nat.reduceLeDiff]
            simp [tsks_lb]
    · have hge : i = ts.length := by simp at hc; omega
      subst hge
      have : (List.range ts.length).all (taskOK ts) = true := by
        rw [List.all_eq_true]
        intro j hj
        exact hok j (by simpa using hj)
      simp only [go_sem, Nat.reduceBEq, listS, this, List.length_map]
      congr 2
      rw [Bool.eq_iff_iff]
      simp
      omega
set_option maxRecDepth 100000 in
theorem c23 (ts : List Tsk) (hlen : ts.length ≤ 9223372036854775807) : FP prog 23 [.sl (ts.map Tsk.enc)] (fun x => x = B (listS ts)) := by
  refine fp_start r23 (by simp) ?_
  simp only [go_sem, m23, Nat.reduceBEq]
  refine loop_use (fun m s => ∃ i : Nat, i ≤ ts.length ∧ m = ts.length - i ∧ (∀ j, j < i → taskOK ts j = true) ∧ s = ⟨[(7, I i), (6, I ts.length), (5, .sl (ts.map Tsk.enc)), (0, .sl (ts.map Tsk.enc))], [], 0⟩) ts.length _ ⟨0, by omega, rfl, fun j hj => absurd hj (by omega), rfl⟩ (by simp) ?_ ?_
  · refine le_use ?_
    simp only [go_sem, Nat.reduceBEq]
    simp [tsks_lb]
  · rintro m s ⟨i, hi, rfl, hok, rfl⟩
    simp only [go_sem, Nat.reduceBEq]
    refine cond_split (fun hc => ?_) (fun hc => ?_)
    · have hlt : i < ts.length := by simp at hc; omega
      have hg : (ts.map Tsk.enc).getD ((i : Int) - 1).toNat [] = ts[i - 1].enc := by
        rw [show ((i : Int) - 1).toNat = i - 1 from by omega]
        exact getD_tsk (by omega)
      simp only [go_sem, Nat.reduceAdd, Nat.reduceBEq, Nat.reduceLeDiff, Int.toNat_natCast, getD_tsk hlt, List.length_map, Tsk.enc]
      refine ⟨⟨by omega, by omega⟩, callG_eq (by simp [lbs, lb]) (fun _ => c20 _ _ _) ?_⟩
      simp only [go_sem, Nat.reduceAdd, Nat.reduceBEq, Nat.reduceLeDiff, List.length_map, Tsk.enc, hg]
      refine ⟨fun _ => by unfold InR; omega, fun h => ?_, ?_⟩
      · simp at h
        omega
      refine cond_split (fun he => ?_) (fun he => ?_)
      · simp only [go_sem]
        rw [list_no hlt]
        rw [taskOK_eq hlt]
        simp at he
        omega
      · have hti : taskOK ts i = true := by
          rw [taskOK_eq hlt]
          simp at he
          omega
        simp only [go_sem, Nat.reduceBEq]
        refine ⟨by unfold InR; omega, ts.length - (i + 1), _, by omega, ⟨i + 1, hlt, rfl, fun j hj => ?_, rfl⟩, by simp, ?_⟩
        · by_cases e : j = i
          · subst e
            exact hti
          · exact hok j (by omega)
        · refine le_use ?_
          simp only [go_sem, Nat.reduceBEq, Nat.reduceLeDiff]
          simp [tsks_lb]
    · have hge : i = ts.length := by simp at hc; omega
      subst hge
      have : (List.range ts.length).all (taskOK ts) = true := by
        rw [List.all_eq_true]
        intro j hj
        exact hok j (by simpa using hj)
      simp only [go_sem, Nat.reduceBEq]
      refine call_eq (by simp [lbs, lb]) (c20 _ _ _) ?_
      simp only [go_sem, listS, this, List.length_map]
      congr 2
      rw [Bool.eq_iff_iff]
      simp
      omega
/-- Which task a segment belongs to. -/
def belS (ts : List Tsk) (s : Seg) : Option Nat := ts.findIdx? fun t => decide (t.from_ = s.from_) && decide (t.to = s.to)
set_option maxRecDepth 100000 in
theorem c32 (ts : List Tsk) (s : Seg) (hlen : ts.length < 2 ^ 62) : FP prog 32 [.sl (ts.map Tsk.enc), .agg s.enc] (fun x => x = I (match belS ts s with | some i => (i : Int) | none => -1)) := by
  refine fp_start r32 (by simp) ?_
  simp only [go_sem, m32, Nat.reduceAdd, Nat.reduceBEq, Seg.enc]
  refine loop_use (fun m st => ∃ i : Nat, i ≤ ts.length ∧ m = ts.length - i ∧ (∀ j, (h : j < i) → (hj : j < ts.length) → ¬ (ts[j].from_ = s.from_ ∧ ts[j].to = s.to)) ∧ st = ⟨[(5, I i), (3, .ptr 0 0), (0, .sl (ts.map Tsk.enc))], [(0, .cs s.enc)], 1⟩) ts.length _ ⟨0, by omega, rfl, fun j hj => absurd hj (by omega), rfl⟩ (by simp) ?_ ?_
  · refine le_use ?_
    simp only [go_sem, Nat.reduceBEq]
    simp [tsks_lb, Seg.enc, lbBx, lbs, lb, recs_lb]
  · rintro m st ⟨i, hi, rfl, hok, rfl⟩
    simp only [go_sem, Nat.reduceBEq, Seg.enc]
    refine cond_split (fun hc => ?_) (fun hc => ?_)
    · have hlt : i < ts.length := by simp at hc; omega
      simp only [go_sem, Nat.reduceAdd, Nat.reduceBEq, Nat.reduceLeDiff, Int.toNat_natCast, getD_tsk hlt, List.length_map, Tsk.enc]
      refine ⟨⟨by omega, by omega⟩, fun _ => ⟨by omega, by omega⟩, ?_⟩
      refine cond_split (fun he => ?_) (fun he => ?_)
      · simp only [go_sem, Nat.reduceBEq]
        have : belS ts s = some i := by
          unfold belS
          rw [List.findIdx?_eq_some_iff_getElem]
          refine ⟨hlt, by simpa using he, fun j hj => ?_⟩
          have := hok j hj (by omega)
          simpa using this
        simp [this]
      · simp only [go_sem, Nat.reduceBEq]
        refine ⟨by unfold InR; omega, ts.length - (i + 1), _, by omega, ⟨i + 1, hlt, rfl, fun j hj hja => ?_, rfl⟩, by simp, ?_⟩
        · by_cases e : j = i
          · subst e
            simpa using he
          · exact hok j (by omega) hja
        · refine le_use ?_
          simp only [go_sem, Nat.reduceBEq]
          simp [tsks_lb, lbBx, lbs, lb, recs_lb]
    · have hge : i = ts.length := by simp at hc; omega
      subst hge
      have : belS ts s = none := by
        unfold belS
        rw [List.findIdx?_eq_none_iff]
        intro t ht
        obtain ⟨j, hj, rfl⟩ := List.mem_iff_getElem.1 ht
        have := hok j hj hj
        simpa using this
      simp only [go_sem, this]
end Go.QL
