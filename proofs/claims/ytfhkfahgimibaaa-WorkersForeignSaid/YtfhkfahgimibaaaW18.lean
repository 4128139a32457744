/- The reference's Merge: what its tables hold. -/
import Derived.Test.YtfhkfahgimibaaaW17
namespace Go.QL
open Go.Proofs.Try
theorem sub_len {α : Type} [DecidableEq α] : ∀ {l1 l2 : List α}, l1.Nodup → (∀ x ∈ l1, x ∈ l2) → l1.length ≤ l2.length
  | [], l2, _, _ => Nat.zero_le _
  | a :: l1, l2, hn, hs => by
    rw [List.nodup_cons] at hn
    have ha := hs a (by simp)
    have := sub_len (l1 := l1) (l2 := l2.erase a) hn.2 fun x hx => (List.mem_erase_of_ne (by intro e; subst e; exact hn.1 hx)).2 (hs x (by simp [hx]))
    rw [List.length_erase_of_mem ha] at this
    have := List.length_pos_of_mem ha
    simp
    omega
def keyP (ts : List Tsk) (k : Nat) (s : Seg) : Bool := plcS ts s == (k : Int)
/-- How many segments lie at a place. -/
def cntS (ts : List Tsk) (ss : List Seg) (k : Nat) : Nat := ss.countP (keyP ts k)
def mC (ts : List Tsk) (ss : List Seg) (i : Nat) : List AV := (List.range ts.length).map fun k => I ((cntS ts (ss.take i) k : Nat) : Int)
def zC : List AV := [I 0, I 0, U 0, U 0, .vl (.slice none 0 0)]
def eC (ts : List Tsk) (ss : List Seg) (i : Nat) : List (List AV) := (List.range ts.length).map fun k => match (ss.take i).reverse.find? (keyP ts k) with
  | some s => s.enc
  | none => zC
theorem mC_len (ts : List Tsk) (ss : List Seg) (i : Nat) : (mC ts ss i).length = ts.length := by simp [mC]
theorem eC_len (ts : List Tsk) (ss : List Seg) (i : Nat) : (eC ts ss i).length = ts.length := by simp [eC]
theorem eC_each (ts : List Tsk) (ss : List Seg) (i : Nat) : ∀ e ∈ eC ts ss i, e.length = 5 ∧ (∀ m, lbs m e) ∧ ∀ σ d, e.map (frz σ d) = e := by
  intro e he
  obtain ⟨k, _, rfl⟩ := List.mem_map.1 he
  split
  · exact ⟨rfl, fun m => Seg.lbs_enc m _, fun σ d => by cases d <;> simp [Seg.enc, frz]⟩
  · exact ⟨rfl, fun m => by simp [zC, lbs, lb], fun σ d => by cases d <;> simp [zC, frz]⟩
theorem mC_zero (ts : List Tsk) (ss : List Seg) : mC ts ss 0 = (List.replicate ts.length [AV.vl (.int .i64 0)]).flatten := by
  refine List.ext_getElem (by simp [mC]) fun i h1 h2 => ?_
  have e : (List.replicate ts.length [AV.vl (.int .i64 0)]).flatten = List.replicate ts.length (AV.vl (.int .i64 0)) := by
    induction ts.length with
    | zero => rfl
    | succ n ih => rw [List.replicate_succ, List.flatten_cons, ih, List.replicate_succ]; rfl
  simp [mC, cntS, e]
theorem eC_zero (ts : List Tsk) (ss : List Seg) : eC ts ss 0 = List.replicate ts.length zC := by
  refine List.ext_getElem (by simp [eC]) fun i h1 h2 => ?_
  simp [eC]
theorem mC_get {ts : List Tsk} {ss : List Seg} {i k : Nat} (h : k < ts.length) : ((mC ts ss i).drop k).headD .any = I ((cntS ts (ss.take i) k : Nat) : Int) := by
  rw [List.drop_eq_getElem_cons (by simpa [mC_len] using h)]
  simp [mC]
theorem mC_succ {ts : List Tsk} {ss : List Seg} {i k : Nat} (h : i < ss.length) (hk : plcS ts ss[i] = k) (hkl : k < ts.length) :
    (mC ts ss i).take k ++ [I (((cntS ts (ss.take i) k : Nat) : Int) + 1)] ++ (mC ts ss i).drop (k + 1) = mC ts ss (i + 1) := by
  have e0 : (mC ts ss i).take k ++ [I (((cntS ts (ss.take i) k : Nat) : Int) + 1)] ++ (mC ts ss i).drop (k + 1) = (mC ts ss i).set k (I (((cntS ts (ss.take i) k : Nat) : Int) + 1)) := by
    rw [List.set_eq_take_append_cons_drop, if_pos (by rw [mC_len]; exact hkl)]
    simp
  rw [e0]
  refine List.ext_getElem (by simp [mC_len]) fun j h1 h2 => ?_
  have e1 : cntS ts (ss.take (i + 1)) j = cntS ts (ss.take i) j + if j = k then 1 else 0 := by
    rw [cntS, List.take_succ_eq_append_getElem h, List.countP_append]
    simp only [List.countP_singleton, keyP, hk, beq_iff_eq, Int.natCast_inj, cntS]
    by_cases e : j = k
    · subst e
      simp
    · simp [e, Ne.symm e]
  rw [List.getElem_set]
  by_cases e : k = j
  · subst e
    simp [mC, e1]
  · simp [mC, e1, e, Ne.symm e]
theorem eC_succ {ts : List Tsk} {ss : List Seg} {i k : Nat} (h : i < ss.length) (hk : plcS ts ss[i] = k) (hkl : k < ts.length) :
    eC ts ss (i + 1) = (eC ts ss i).set k ss[i].enc := by
  refine List.ext_getElem (by simp [eC_len]) fun j h1 h2 => ?_
  have hj : j < ts.length := by simpa [eC_len] using h1
  simp only [List.getElem_set]
  simp only [eC, List.getElem_map, List.getElem_range, List.take_succ_eq_append_getElem h, List.reverse_append, List.reverse_cons, List.reverse_nil, List.nil_append, List.singleton_append]
  by_cases e : k = j
  · subst e
    rw [List.find?_cons_of_pos (by simp [keyP, hk])]
    simp
  · rw [List.find?_cons_of_neg (by simp [keyP, hk]; omega)]
    simp [e]
theorem flat_set : ∀ {es : List (List AV)} {k : Nat} {x : List AV}, (∀ e ∈ es, e.length = 5) → k < es.length → (es.flatten).take (k * 5) ++ x ++ (es.flatten).drop (k * 5 + 5) = (es.set k x).flatten
  | [], k, x, _, h => by simp at h
  | e :: es, 0, x, he, h => by
    have := he e (by simp)
    simp [this]
  | e :: es, k + 1, x, he, h => by
    have h5 := he e (by simp)
    have ih := flat_set (es := es) (k := k) (x := x) (fun a ha => he a (by simp [ha])) (by simpa using h)
    simp only [List.flatten_cons, List.set_cons_succ]
    rw [← ih, show (k + 1) * 5 = e.length + k * 5 by omega, show e.length + k * 5 + 5 = e.length + (k * 5 + 5) by omega, List.take_length_add_append, List.drop_length_add_append]
    simp
theorem cnt_le {ts : List Tsk} {k : Nat} : ∀ {ss : List Seg}, (ss.map (plcS ts)).Nodup → cntS ts ss k ≤ 1
  | [], _ => by simp [cntS]
  | a :: ss, h => by
    rw [List.map_cons, List.nodup_cons] at h
    have ih := cnt_le (k := k) h.2
    simp only [cntS, List.countP_cons] at ih ⊢
    by_cases e : keyP ts k a = true
    · have : List.countP (keyP ts k) ss = 0 := by
        rw [List.countP_eq_zero]
        intro b hb hk
        simp only [keyP, beq_iff_eq] at e hk
        exact h.1 (List.mem_map.2 ⟨b, hb, by rw [hk, e]⟩)
      simp [this, e]
    · simp [e]
      exact ih
theorem nodup_cnt {ts : List Tsk} : ∀ {ss : List Seg}, (∀ s ∈ ss, 0 ≤ plcS ts s ∧ plcS ts s < ts.length) → (∀ k, k < ts.length → cntS ts ss k ≤ 1) → (ss.map (plcS ts)).Nodup
  | [], _, _ => by simp
  | a :: ss, hb, hc => by
    rw [List.map_cons, List.nodup_cons]
    refine ⟨fun hm => ?_, nodup_cnt (fun s hs => hb s (by simp [hs])) fun k hk => ?_⟩
    · obtain ⟨b, hbm, hbe⟩ := List.mem_map.1 hm
      have ha := hb a (by simp)
      have h1 := hc (plcS ts a).toNat (by omega)
      have e : keyP ts (plcS ts a).toNat a = true := by simp [keyP]; omega
      have e2 : 0 < List.countP (keyP ts (plcS ts a).toNat) ss := by
        rw [List.countP_pos_iff]
        exact ⟨b, hbm, by simp [keyP, hbe]; omega⟩
      simp only [cntS, List.countP_cons, e, if_true] at h1
      omega
    · have := hc k hk
      simp only [cntS, List.countP_cons] at this ⊢
      omega
def intsS (n : Nat) : List Int := (List.range n).map fun (k : Nat) => (k : Int)
theorem intsS_nodup (n : Nat) : (intsS n).Nodup := by
  rw [intsS, List.Nodup, List.pairwise_map]
  exact List.nodup_range.imp fun h e => h (by omega)
theorem intsS_mem {n : Nat} {x : Int} : x ∈ intsS n ↔ 0 ≤ x ∧ x < n := by
  simp only [intsS, List.mem_map, List.mem_range]
  constructor
  · rintro ⟨k, hk, rfl⟩
    omega
  · intro h
    exact ⟨x.toNat, by omega, by omega⟩
theorem missing_lt {ts : List Tsk} {ss : List Seg} {k : Nat} (hb : ∀ s ∈ ss, 0 ≤ plcS ts s ∧ plcS ts s < ts.length) (hn : (ss.map (plcS ts)).Nodup) (hk : k < ts.length) (hc : cntS ts ss k = 0) : ss.length < ts.length := by
  have := sub_len (l1 := (k : Int) :: ss.map (plcS ts)) (l2 := intsS ts.length) (by
    rw [List.nodup_cons]
    refine ⟨fun hm => ?_, hn⟩
    obtain ⟨b, hbm, hbe⟩ := List.mem_map.1 hm
    rw [cntS, List.countP_eq_zero] at hc
    exact hc b hbm (by simp [keyP, hbe])) (by
    intro x hx
    rw [intsS_mem]
    rcases List.mem_cons.1 hx with rfl | hx
    · omega
    · obtain ⟨b, hbm, rfl⟩ := List.mem_map.1 hx
      exact hb b hbm)
  simp [intsS] at this
  omega
theorem full_ge {ts : List Tsk} {ss : List Seg} (hc : ∀ k, k < ts.length → cntS ts ss k ≠ 0) : ts.length ≤ ss.length := by
  have := sub_len (l1 := intsS ts.length) (l2 := ss.map (plcS ts)) (intsS_nodup _) (by
    intro x hx
    rw [intsS_mem] at hx
    have h0 := hc x.toNat (by omega)
    have h1 : 0 < List.countP (keyP ts x.toNat) ss := by
      rw [cntS] at h0
      omega
    obtain ⟨b, hbm, hbe⟩ := List.countP_pos_iff.1 h1
    simp only [keyP, beq_iff_eq] at hbe
    exact List.mem_map.2 ⟨b, hbm, by omega⟩)
  simpa [intsS] using this
theorem eC_full {ts : List Tsk} {ss : List Seg} (hn : (ss.map (plcS ts)).Nodup) (hc : ∀ k, k < ts.length → cntS ts ss k ≠ 0) : eC ts ss ss.length = (placed ts ss).map Seg.enc := by
  refine List.ext_getElem (by simp [eC_len, placed_len]) fun k h1 h2 => ?_
  have hk : k < ts.length := by simpa [eC_len] using h1
  have h0 := hc k hk
  have h3 : 0 < List.countP (keyP ts k) ss := by
    rw [cntS] at h0
    omega
  obtain ⟨b, hbm, hbe⟩ := List.countP_pos_iff.1 h3
  simp only [keyP, beq_iff_eq] at hbe
  have f1 : ss.reverse.find? (keyP ts k) = some b := by
    have := find_key (ss := ss.reverse) (f := plcS ts) (((List.reverse_perm ss).map (plcS ts)).nodup_iff.2 hn) (List.mem_reverse.2 hbm)
    rw [hbe] at this
    exact this
  have f2 : ss.find? (fun s => plcS ts s == (k : Int)) = some b := by
    have := find_key hn hbm
    rw [hbe] at this
    exact this
  simp only [eC, List.getElem_map, List.getElem_range, List.take_length, f1, placed, f2]
  rfl
end Go.QL
