/- Contracts: segments that are valid. -/
import Derived.Test.YtfhkfahgimibaaaW3
namespace Go.QL
open Go.Proofs.Try
/-- A segment. -/
structure Seg where
  from_ : Int
  to : Int
  beg : Int
  end_ : Int
  rs : List Rec
  deriving DecidableEq
def Seg.enc (s : Seg) : List AV := [I s.from_, I s.to, U s.beg, U s.end_, .sl (s.rs.map Rec.enc)]
theorem Rec.lbs_enc (n : Nat) (r : Rec) : lbs n r.enc := by simp [Rec.enc, lbs, lb]
theorem Rec.len_enc (r : Rec) : r.enc.length = 11 := rfl
theorem recs_lb (n : Nat) (rs : List Rec) : lbEs n (rs.map Rec.enc) := (lbEs_iff _ _).2 fun e he => by
  obtain ⟨r, _, rfl⟩ := List.mem_map.1 he
  exact r.lbs_enc n
theorem Seg.lbs_enc (n : Nat) (s : Seg) : lbs n s.enc := by simp [Seg.enc, lbs, lb, recs_lb]
theorem getD_enc {rs : List Rec} {i : Nat} (h : i < rs.length) : (rs.map Rec.enc).getD i [] = rs[i].enc := by simp [List.getD_eq_getElem?_getD, h]
/-- The time of the record before one. -/
def atB (f : Int) (rs : List Rec) (i : Nat) : Int := if i = 0 then f else (rs[i - 1]?.map Rec.at_).getD 0
def timeOK (f t : Int) (rs : List Rec) (i : Nat) : Bool := match rs[i]? with
  | some r => decide (atB f rs i ≤ r.at_) && decide (r.at_ < t)
  | none => true
def Seg.base (s : Seg) : Bool := decide (0 ≤ s.from_) && decide (s.from_ ≤ s.to) && decide (s.to ≤ 10000000) && decide (s.rs.length ≤ 5000)
def validS (s : Seg) : Bool := s.base && (List.range s.rs.length).all (timeOK s.from_ s.to s.rs) && decide (s.rs.foldl digestS s.beg = s.end_)
theorem valid_no {s : Seg} {i : Nat} (h : i < s.rs.length) (hn : timeOK s.from_ s.to s.rs i = false) : validS s = false := by
  have : (List.range s.rs.length).all (timeOK s.from_ s.to s.rs) = false := by
    rw [List.all_eq_false]
    exact ⟨i, by simpa using h, by simp [hn]⟩
  simp [validS, this]
theorem take_rec {d : Int} {rs : List Rec} {i : Nat} (h : i < rs.length) : (rs.take (i + 1)).foldl digestS d = digestS ((rs.take i).foldl digestS d) rs[i] := by
  rw [List.take_succ_eq_append_getElem h, List.foldl_append]
  simp only [List.foldl_cons, List.foldl_nil]
theorem timeOK_eq {f t : Int} {rs : List Rec} {i : Nat} (h : i < rs.length) : timeOK f t rs i = (decide (atB f rs i ≤ rs[i].at_) && decide (rs[i].at_ < t)) := by simp [timeOK, h]
theorem atB_succ {f : Int} {rs : List Rec} {i : Nat} (h : i < rs.length) : atB f rs (i + 1) = rs[i].at_ := by simp [atB, h]
set_option maxRecDepth 100000 in
theorem c38 (s : Seg) : FP prog 38 [.agg s.enc] (fun x => x = B (validS s)) := by
  refine fp_start r38 (by simp) ?_
  simp only [go_sem, m38, Nat.reduceAdd, Nat.reduceBEq, Nat.reduceLeDiff, Seg.enc]
  refine cond_split (fun hc => ?_) (fun hc => ?_)
  · simp only [go_sem]
    have : s.base = false := by
      unfold Seg.base
      rw [Bool.eq_false_iff]
      intro h
      simp at hc h
      omega
    simp [validS, this]
  · have hb : s.base = true := by
      unfold Seg.base
      simp at hc ⊢
      omega
    have hb' := hb
    simp [Seg.base] at hb'
    simp only [go_sem, Nat.reduceAdd, Nat.reduceBEq, Nat.reduceLeDiff]
    obtain ⟨⟨⟨h1, h2⟩, h3⟩, h4⟩ := hb'
    refine loop_use (fun m st => ∃ i : Nat, i ≤ s.rs.length ∧ m = s.rs.length - i ∧ (∀ j, j < i → timeOK s.from_ s.to s.rs j = true) ∧ st = ⟨[(35, I i), (34, I s.rs.length), (33, .sl (s.rs.map Rec.enc)), (4, I (atB s.from_ s.rs i)), (3, U ((s.rs.take i).foldl digestS s.beg)), (1, .ptr 0 0)], [(0, .cs s.enc)], 1⟩) s.rs.length _ ⟨0, by omega, rfl, by simp, rfl⟩ (by simp) ?_ ?_
    · refine le_use ?_
      simp only [go_sem, Nat.reduceBEq]
      simp [lbBx, lbs, lb, recs_lb, atB, Seg.enc]
    · rintro m st ⟨i, hi, rfl, hok, rfl⟩
      simp only [go_sem, Nat.reduceBEq]
      refine cond_split (fun hc => ?_) (fun hc => ?_)
      · have hlt : i < s.rs.length := by simp at hc; omega
        simp only [go_sem, Nat.reduceAdd, Nat.reduceBEq, Nat.reduceLeDiff, Int.toNat_natCast, getD_enc hlt, List.length_map, Rec.enc, Seg.enc]
        refine ⟨⟨by omega, by omega⟩, ?_⟩
        refine cond_split (fun hc => ?_) (fun hc => ?_)
        · simp only [go_sem]
          rw [valid_no hlt]
          rw [timeOK_eq hlt]
          simp at hc ⊢
          omega
        · have hti : timeOK s.from_ s.to s.rs i = true := by
            rw [timeOK_eq hlt]
            simp at hc ⊢
            omega
          simp only [go_sem, Nat.reduceAdd, Nat.reduceBEq]
          refine callT_eq (by simp [lbs, lb]) (c45 _ s.rs[i]) ?_
          simp only [go_sem, Nat.reduceAdd, Nat.reduceBEq, Nat.reduceLeDiff]
          refine ⟨by unfold InR; omega, s.rs.length - (i + 1), _, by omega, ⟨i + 1, hlt, rfl, fun j hj => ?_, rfl⟩, by simp, ?_⟩
          · by_cases e : j = i
            · rw [e]
              exact hti
            · exact hok j (by omega)
          · refine le_use ?_
            simp only [go_sem, Nat.reduceBEq, Nat.reduceLeDiff, take_rec hlt, atB_succ hlt]
            simp [lbBx, lb, recs_lb, lbs]
      · have hge : i = s.rs.length := by simp at hc; omega
        subst hge
        simp only [go_sem, Nat.reduceAdd, Nat.reduceBEq, Nat.reduceLeDiff, Seg.enc, List.take_length]
        have : (List.range s.rs.length).all (timeOK s.from_ s.to s.rs) = true := by
          rw [List.all_eq_true]
          intro j hj
          exact hok j (by simpa using hj)
        simp [validS, hb, this]
theorem atB_ge {f t : Int} {rs : List Rec} : ∀ {i : Nat}, i ≤ rs.length → (∀ j, j < i → timeOK f t rs j = true) → f ≤ atB f rs i
  | 0, _, _ => by simp [atB]
  | i + 1, hi, h => by
    have h1 := atB_ge (i := i) (by omega) fun j hj => h j (by omega)
    have h2 := h i (by omega)
    rw [timeOK_eq (by omega)] at h2
    rw [atB_succ (by omega)]
    simp at h2
    omega
set_option maxRecDepth 100000 in
theorem c31 (s : Seg) : FP prog 31 [.agg s.enc] (fun x => x = B (validS s)) := by
  refine fp_start r31 (by simp) ?_
  simp only [go_sem, m31, Nat.reduceAdd, Nat.reduceBEq, Nat.reduceLeDiff, Seg.enc]
  refine cond_split (fun hc => ?_) (fun hc => ?_)
  · simp only [go_sem]
    have : s.base = false := by
      unfold Seg.base
      rw [Bool.eq_false_iff]
      intro h
      simp at hc h
      omega
    simp [validS, this]
  · have hb : s.base = true := by
      unfold Seg.base
      simp at hc ⊢
      omega
    have hb' := hb
    simp [Seg.base] at hb'
    simp only [go_sem, Nat.reduceAdd, Nat.reduceBEq, Nat.reduceLeDiff]
    obtain ⟨⟨⟨h1, h2⟩, h3⟩, h4⟩ := hb'
    refine loop_use (fun m st => ∃ i : Nat, i ≤ s.rs.length ∧ m = s.rs.length - i ∧ (∀ j, j < i → timeOK s.from_ s.to s.rs j = true) ∧ st = ⟨[(4, I i), (3, U ((s.rs.take i).foldl digestS s.beg)), (1, .ptr 0 0)], [(0, .cs s.enc)], 1⟩) s.rs.length _ ⟨0, by omega, rfl, by simp, rfl⟩ (by simp) ?_ ?_
    · refine le_use ?_
      simp only [go_sem, Nat.reduceBEq]
      simp [lbBx, lbs, lb, recs_lb, Seg.enc]
    · rintro m st ⟨i, hi, rfl, hok, rfl⟩
      simp only [go_sem, Nat.reduceAdd, Nat.reduceBEq, Seg.enc]
      refine cond_split (fun hc => ?_) (fun hc => ?_)
      · have hlt : i < s.rs.length := by simp at hc; omega
        have hge := atB_ge hi hok
        have hg : (s.rs.map Rec.enc).getD ((i : Int) - 1).toNat [] = s.rs[i - 1].enc := by
          rw [show ((i : Int) - 1).toNat = i - 1 from by omega]
          exact getD_enc (by omega)
        simp only [go_sem, Nat.reduceAdd, Nat.reduceBEq, Nat.reduceLeDiff, Int.toNat_natCast, getD_enc hlt, List.length_map, Rec.enc, hg]
        refine ⟨⟨by omega, by omega⟩, fun _ => by unfold InR; omega, fun h => ?_, ?_⟩
        · simp at h
          omega
        have hiff : timeOK s.from_ s.to s.rs i = false ↔ (s.rs[i].at_ < s.from_ ∨ s.to ≤ s.rs[i].at_) ∨ (0 < i ∧ s.rs[i].at_ < s.rs[i - 1].at_) := by
          rw [timeOK_eq hlt]
          unfold atB at hge ⊢
          by_cases h0 : i = 0
          · subst h0
            simp
            omega
          · simp only [if_neg h0] at hge ⊢
            rw [List.getElem?_eq_getElem (by omega)] at hge ⊢
            simp at hge ⊢
            omega
        refine cond_split (fun hc => ?_) (fun hc => ?_)
        · simp only [go_sem]
          rw [valid_no hlt]
          rw [hiff]
          simpa using hc
        · have hti : timeOK s.from_ s.to s.rs i = true := by
            rw [← Bool.not_eq_false, hiff]
            simp at hc
            omega
          simp only [go_sem, Nat.reduceAdd, Nat.reduceBEq]
          refine call_eq (by simp [lbs, lb]) (c17 _ s.rs[i]) ?_
          simp only [go_sem, Nat.reduceBEq]
          refine ⟨by unfold InR; omega, s.rs.length - (i + 1), _, by omega, ⟨i + 1, hlt, rfl, fun j hj => ?_, rfl⟩, by simp, ?_⟩
          · by_cases e : j = i
            · rw [e]
              exact hti
            · exact hok j (by omega)
          · refine le_use ?_
            simp only [go_sem, Nat.reduceBEq, Nat.reduceLeDiff, take_rec hlt]
            simp [lbBx, lb, recs_lb, lbs]
      · have hge : i = s.rs.length := by simp at hc; omega
        subst hge
        simp only [go_sem, Nat.reduceAdd, Nat.reduceBEq, Nat.reduceLeDiff, List.take_length]
        have : (List.range s.rs.length).all (timeOK s.from_ s.to s.rs) = true := by
          rw [List.all_eq_true]
          intro j hj
          exact hok j (by simpa using hj)
        simp [validS, hb, this]
end Go.QL
