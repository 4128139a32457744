/- The law WorkersForeign: what changes. -/
import Derived.Test.YtfhkfahgimibaaaL3
namespace Go.QL
open Go.Proofs.Try
def xorU (a b : Int) : Int := bitv .xor .u64 a b
theorem xor_ne {a b : Int} (h0 : 0 ≤ b) (h1 : b < 18446744073709551616) (hb : b ≠ 0) : xorU a b ≠ a := by
  intro e
  have e1 : BitVec.ofInt 64 (xorU a b) = BitVec.ofInt 64 a ^^^ BitVec.ofInt 64 b := by
    show BitVec.ofInt 64 (IntKind.u64.wrap (((BitVec.ofInt 64 a ^^^ BitVec.ofInt 64 b).toNat : Nat) : Int)) = _
    rw [wrap_nat (BitVec.isLt _), BitVec.ofInt_natCast]
    simp only [BitVec.ofNat_toNat, BitVec.setWidth_eq]
  rw [e] at e1
  have e2 : BitVec.ofInt 64 b = 0 := by
    have : BitVec.ofInt 64 a ^^^ BitVec.ofInt 64 a = BitVec.ofInt 64 a ^^^ (BitVec.ofInt 64 a ^^^ BitVec.ofInt 64 b) := by rw [← e1]
    rw [← BitVec.xor_assoc, BitVec.xor_self, BitVec.zero_xor] at this
    exact this.symm
  have e3 := congrArg BitVec.toNat e2
  simp at e3
  omega
/-- The segment, begun elsewhere. -/
def turned (by_ : Int) (s : Seg) : Seg := { s with beg := xorU s.beg by_, end_ := s.rs.foldl digestS (xorU s.beg by_) }
theorem turned_valid {b : Int} {s : Seg} (h : validS s = true) : validS (turned b s) = true := by
  simp only [validS, Seg.base, turned, Bool.and_eq_true] at h ⊢
  exact ⟨h.1, by simp⟩
theorem bel_turned (ts : List Tsk) (b : Int) (s : Seg) : belS ts (turned b s) = belS ts s := rfl
theorem plc_turned (ts : List Tsk) (b : Int) (s : Seg) : plcS ts (turned b s) = plcS ts s := rfl
theorem map_plc {ts : List Tsk} {ss : List Seg} {k : Nat} (h : k < ss.length) (b : Int) : (ss.set k (turned b ss[k])).map (plcS ts) = ss.map (plcS ts) := by
  rw [List.map_set, plc_turned]
  exact List.ext_getElem (by simp) fun i h1 h2 => by
    rw [List.getElem_set]
    split
    · rename_i e
      subst e
      simp
    · rfl
theorem key_inj {ss : List Seg} {f : Seg → Int} (hn : (ss.map f).Nodup) {i j : Nat} (hi : i < ss.length) (hj : j < ss.length) (e : f ss[i] = f ss[j]) : i = j := by
  have hp := List.pairwise_iff_getElem.1 hn
  rcases Nat.lt_trichotomy i j with h | h | h
  · exact absurd (by rw [List.getElem_map, List.getElem_map]; exact e) (hp i j (by simpa using hi) (by simpa using hj) h)
  · exact h
  · exact absurd (by rw [List.getElem_map, List.getElem_map]; exact e.symm) (hp j i (by simpa using hj) (by simpa using hi) h)
/-- Where a segment lies among those that are placed. -/
theorem placed_set {ts : List Tsk} {ss : List Seg} {a : Nat} (ha : a < ss.length) (b : Int) (hn : (ss.map (plcS ts)).Nodup) (hb : ∀ s ∈ ss, (belS ts s).isSome = true) :
    placed ts (ss.set a (turned b ss[a])) = (placed ts ss).set (plcS ts ss[a]).toNat (turned b ss[a]) := by
  have hn' : ((ss.set a (turned b ss[a])).map (plcS ts)).Nodup := by
    rw [map_plc ha]
    exact hn
  have h0 := (plcS_lt (hb _ (List.getElem_mem ha))).1
  refine List.ext_getElem (by simp [placed]) fun k h1 h2 => ?_
  rw [List.getElem_set]
  simp only [placed, List.getElem_map, List.getElem_range]
  by_cases hk : ∃ j, ∃ h : j < ss.length, plcS ts ss[j] = (k : Int)
  · obtain ⟨j, hj, hjk⟩ := hk
    have f1 : ss.find? (fun s => plcS ts s == (k : Int)) = some ss[j] := by
      have := find_key hn (List.getElem_mem hj)
      rwa [hjk] at this
    have hj' : j < (ss.set a (turned b ss[a])).length := by simpa using hj
    have hkey : plcS ts (ss.set a (turned b ss[a]))[j] = (k : Int) := by
      rw [List.getElem_set]
      split
      · rename_i e
        subst e
        rw [plc_turned]
        exact hjk
      · exact hjk
    have f2 : (ss.set a (turned b ss[a])).find? (fun s => plcS ts s == (k : Int)) = some (ss.set a (turned b ss[a]))[j] := by
      have := find_key hn' (List.getElem_mem hj')
      rwa [hkey] at this
    rw [f1, f2]
    simp only [Option.getD_some, List.getElem_set]
    by_cases e : a = j
    · subst e
      rw [if_pos rfl, if_pos (by omega)]
    · rw [if_neg e, if_neg fun e2 => e (key_inj hn ha hj (by omega))]
  · have hne : ¬ (plcS ts ss[a]).toNat = k := fun e => hk ⟨a, ha, by omega⟩
    rw [if_neg hne]
    have f1 : ss.find? (fun s => plcS ts s == (k : Int)) = none := by
      rw [List.find?_eq_none]
      intro s hs e
      obtain ⟨j, hj, rfl⟩ := List.mem_iff_getElem.1 hs
      exact hk ⟨j, hj, by simpa using e⟩
    have f2 : (ss.set a (turned b ss[a])).find? (fun s => plcS ts s == (k : Int)) = none := by
      rw [List.find?_eq_none]
      intro s hs e
      obtain ⟨j, hj, rfl⟩ := List.mem_iff_getElem.1 hs
      have hj' : j < ss.length := by simpa using hj
      rw [List.getElem_set] at e
      split at e
      · rename_i e2
        subst e2
        exact hk ⟨a, ha, by simpa [plc_turned] using e⟩
      · exact hk ⟨j, hj', by simpa using e⟩
    rw [f1, f2]
theorem joined_ok {l : List Seg} {s : Seg} (h : joinS l = (s, 0)) : ¬ (l.length = 0 ∨ 32 < l.length) ∧ l.all validS = true ∧ chainS timesP l = true ∧ chainS sumsP l = true := by
  unfold joinS at h
  split at h
  · simp at h
  split at h
  · simp at h
  split at h
  · simp at h
  split at h
  · simp at h
  rename_i h1 h2 h3 h4
  exact ⟨h1, by simpa using h2, by simpa using h3, by simpa using h4⟩
theorem merge_ok {ts : List Tsk} {ss : List Seg} {s : Seg} (h : mergeS ts ss = (s, 0)) : listS ts = true ∧ ss.length ≤ 32 ∧ ss.all validS = true ∧ (ss.all fun s => (belS ts s).isSome) = true ∧ (ss.map (plcS ts)).Nodup ∧ ts.length ≤ ss.length ∧ joinS (placed ts ss) = (s, 0) := by
  unfold mergeS at h
  split at h
  · simp at h
  split at h
  · simp at h
  split at h
  · simp at h
  split at h
  · simp at h
  split at h
  · simp at h
  rename_i h1 h2 h3 h4 h5
  simp only [not_or] at h1
  exact ⟨by simpa using h1.1, by omega, by simpa using h2, Bool.not_eq_false _ ▸ h3, by simpa using h4, by omega, h⟩
theorem merge_turned {ts : List Tsk} {ss : List Seg} {s : Seg} (h : mergeS ts ss = (s, 0)) {a : Nat} (ha : a < ss.length) (h0 : 0 < ts.length) (hfrom : ss[a].from_ ≠ ts[0].from_) {b : Int} (hb0 : 0 ≤ b) (hb1 : b < 18446744073709551616) (hb : b ≠ 0) :
    (mergeS ts (ss.set a (turned b ss[a]))).2 = 11 := by
  obtain ⟨m1, m2, m3, m4, m5, m6, m7⟩ := merge_ok h
  obtain ⟨j1, j2, j3, j4⟩ := joined_ok m7
  have hbs : ∀ s ∈ ss, (belS ts s).isSome = true := by simpa [List.all_eq_true] using m4
  have hvs : ∀ s ∈ ss, validS s = true := by simpa [List.all_eq_true] using m3
  have hpl := plcS_lt (hbs _ (List.getElem_mem ha))
  have hm : ∀ x ∈ ss.set a (turned b ss[a]), x = turned b ss[a] ∨ x ∈ ss := fun x hx => (List.mem_or_eq_of_mem_set hx).symm
  have n3 : (ss.set a (turned b ss[a])).all validS = true := by
    rw [List.all_eq_true]
    intro x hx
    rcases hm x hx with rfl | hx
    · exact turned_valid (hvs _ (List.getElem_mem ha))
    · exact hvs x hx
  have n4 : ((ss.set a (turned b ss[a])).all fun s => (belS ts s).isSome) = true := by
    rw [List.all_eq_true]
    intro x hx
    rcases hm x hx with rfl | hx
    · rw [bel_turned]
      exact hbs _ (List.getElem_mem ha)
    · exact hbs x hx
  have n5 : ((ss.set a (turned b ss[a])).map (plcS ts)).Nodup := by
    rw [map_plc ha]
    exact m5
  have hK : ∃ K : Nat, plcS ts ss[a] = K ∧ K < ts.length := ⟨(plcS ts ss[a]).toNat, by omega, by omega⟩
  obtain ⟨K, hK1, hK2⟩ := hK
  have hPK : ∀ hh : K < (placed ts ss).length, (placed ts ss)[K] = ss[a] := fun hh => by
    have := find_key m5 (List.getElem_mem ha)
    rw [hK1] at this
    simp [placed, this]
  have hKl : K < (placed ts ss).length := by rw [placed_len]; exact hK2
  have hK0 : 1 ≤ K := by
    refine Classical.byContradiction fun hc => hfrom ?_
    have hz : K = 0 := by omega
    subst hz
    unfold plcS at hK1
    cases e : belS ts ss[a] with
    | none =>
      have := hbs _ (List.getElem_mem ha)
      simp [e] at this
    | some n =>
      rw [e] at hK1
      have hn0 : n = 0 := by simpa using hK1
      subst hn0
      have := (List.findIdx?_eq_some_iff_getElem.1 e).2.1
      simp at this
      exact this.1.symm
  have hpl2 := placed_set ha b m5 hbs
  rw [hK1, Int.toNat_natCast] at hpl2
  have q1 : ¬ (((placed ts ss).set K (turned b ss[a])).length = 0 ∨ 32 < ((placed ts ss).set K (turned b ss[a])).length) := by simpa using j1
  have q2 : ¬ ((placed ts ss).set K (turned b ss[a])).all validS = false := by
    have : ((placed ts ss).set K (turned b ss[a])).all validS = true := by
      rw [List.all_eq_true] at j2 ⊢
      intro x hx
      rcases List.mem_or_eq_of_mem_set hx with hx | rfl
      · exact j2 x hx
      · exact turned_valid (hvs _ (List.getElem_mem ha))
    simp [this]
  have q3 : ¬ chainS timesP ((placed ts ss).set K (turned b ss[a])) = false := by
    have : chainS timesP ((placed ts ss).set K (turned b ss[a])) = true := by
      unfold chainS at j3 ⊢
      rw [List.all_eq_true] at j3 ⊢
      intro i hi
      have hi' : i + 1 < (placed ts ss).length := by simp at hi; omega
      have h3 := j3 i (by simp; omega)
      rw [pairOK_eq hi'] at h3
      rw [pairOK_eq (by simpa using hi')]
      simp only [timesP, List.getElem_set] at h3 ⊢
      have t1 : (if K = i then turned b ss[a] else (placed ts ss)[i]).to = (placed ts ss)[i].to := by
        split
        · rename_i e
          subst e
          rw [hPK]
          rfl
        · rfl
      have t2 : (if K = i + 1 then turned b ss[a] else (placed ts ss)[i + 1]).from_ = (placed ts ss)[i + 1].from_ := by
        split
        · rename_i e
          subst e
          rw [hPK]
          rfl
        · rfl
      rw [t1, t2]
      exact h3
    simp [this]
  have q4 : chainS sumsP ((placed ts ss).set K (turned b ss[a])) = false := by
    refine chain_no (i := K - 1) (by simp; omega) ?_
    rw [pairOK_eq (by simp; omega)]
    unfold chainS at j4
    rw [List.all_eq_true] at j4
    have h4 := j4 (K - 1) (by simp; omega)
    rw [pairOK_eq (by omega)] at h4
    simp only [sumsP, List.getElem_set, show K - 1 + 1 = K by omega, decide_eq_true_eq] at h4 ⊢
    rw [if_neg (by omega), if_pos trivial, h4, hPK]
    simp only [decide_eq_false_iff_not]
    exact fun e => xor_ne hb0 hb1 hb e.symm
  unfold mergeS
  rw [if_neg (by rw [m1]; simp; omega), if_neg (by rw [n3]; simp), if_neg (by rw [n4]; simp), if_neg (fun h => h n5), if_neg (by simp; omega), hpl2]
  unfold joinS
  rw [if_neg q1, if_neg q2, if_neg q3, if_pos q4]
theorem fl_head : ∀ {es : List (List AV)} {k c : Nat}, (∀ e ∈ es, e.length = 5) → (h : k < es.length) → c < 5 → (es.flatten.drop (k * 5 + c)).headD .any = es[k].getD c .any
  | [], k, c, _, h, _ => by simp at h
  | e :: es, 0, c, he, _, hc => by
    have h5 := he e (by simp)
    rw [List.flatten_cons, Nat.zero_mul, Nat.zero_add, List.drop_append_of_le_length (by omega), List.drop_eq_getElem_cons (by omega)]
    simp [List.getD_eq_getElem?_getD, show c < e.length by omega]
  | e :: es, k + 1, c, he, h, hc => by
    have h5 := he e (by simp)
    rw [List.flatten_cons, show (k + 1) * 5 + c = e.length + (k * 5 + c) by omega, List.drop_length_add_append]
    simpa using fl_head (es := es) (k := k) (fun a ha => he a (by simp [ha])) (by simpa using h) hc
theorem fl_set : ∀ {es : List (List AV)} {k c : Nat} {x : AV}, (∀ e ∈ es, e.length = 5) → (h : k < es.length) → c < 5 → es.flatten.set (k * 5 + c) x = (es.set k (es[k].set c x)).flatten
  | [], k, c, x, _, h, _ => by simp at h
  | e :: es, 0, c, x, he, _, hc => by
    have h5 := he e (by simp)
    rw [List.flatten_cons, Nat.zero_mul, Nat.zero_add, List.set_append_left _ _ (by omega)]
    simp
  | e :: es, k + 1, c, x, he, h, hc => by
    have h5 := he e (by simp)
    rw [List.flatten_cons, List.set_append_right _ _ (by omega), show (k + 1) * 5 + c - e.length = k * 5 + c by omega, fl_set (es := es) (k := k) (fun a ha => he a (by simp [ha])) (by simpa using h) hc]
    simp
theorem flat_cell {ss : List Seg} {a c : Nat} (ha : a < ss.length) (hc : c < 5) : (((ss.map Seg.enc).flatten).drop (a * 5 + c)).headD .any = ss[a].enc.getD c .any := by
  rw [fl_head segs_len (by simpa using ha) hc]
  simp
theorem flat_put {ss : List Seg} {a c : Nat} {x : AV} {s' : Seg} (ha : a < ss.length) (hc : c < 5) (hx : s'.enc = ss[a].enc.set c x) : ((ss.map Seg.enc).flatten).take (a * 5 + c) ++ [x] ++ ((ss.map Seg.enc).flatten).drop (a * 5 + c + 1) = ((ss.set a s').map Seg.enc).flatten := by
  have hl : ((ss.map Seg.enc).flatten).length = ss.length * 5 := by
    rw [flat_len segs_len]
    simp
  have e : ((ss.map Seg.enc).flatten).take (a * 5 + c) ++ [x] ++ ((ss.map Seg.enc).flatten).drop (a * 5 + c + 1) = ((ss.map Seg.enc).flatten).set (a * 5 + c) x := by
    rw [List.set_eq_take_append_cons_drop, if_pos (by omega)]
    simp
  rw [e, fl_set segs_len (by simpa using ha) hc, List.map_set, hx]
  simp
theorem flat0 {ss : List Seg} {a : Nat} (ha : a < ss.length) : (((ss.map Seg.enc).flatten).drop (a * 5)).headD .any = I ss[a].from_ := flat_cell (c := 0) ha (by omega)
theorem flat2 {ss : List Seg} {a : Nat} (ha : a < ss.length) : (((ss.map Seg.enc).flatten).drop (a * 5 + 2)).headD .any = U ss[a].beg := flat_cell (c := 2) ha (by omega)
theorem flat4 {ss : List Seg} {a : Nat} (ha : a < ss.length) : (((ss.map Seg.enc).flatten).drop (a * 5 + 4)).headD .any = .sl (ss[a].rs.map Rec.enc) := flat_cell (c := 4) ha (by omega)
set_option maxRecDepth 100000 in
theorem c7 (ts : List Tsk) (ss : List Seg) (wh by_ : Int) (hts : ts.length ≤ 9223372036854775807) (hss : ss.length ≤ 9223372036854775807) (hw0 : 0 ≤ wh) (hw1 : wh ≤ 255) (hb0 : 0 ≤ by_) (hb1 : by_ < 18446744073709551616) :
    FP prog 7 [.sl (ts.map Tsk.enc), .sl (ss.map Seg.enc), .vl (.int .u8 wh), U by_] (fun x => x = B true) := by
  refine fp_start r7 (by simp) ?_
  simp only [go_sem, m7, Nat.reduceAdd]
  refine call_eq (by simp [lbs]) c8 ?_
  simp only [go_sem, Nat.reduceBEq]
  refine call_eq (by simp [lbs, lb, tsks_lb, segs_lb]) (c9 ts ss hss) ?_
  simp only [go_sem, Nat.reduceBEq]
  refine call_eq (by simp [lbs, lb, tsks_lb, segs_lb]) (c12e ts ss hts) ?_
  simp only [go_sem, Nat.reduceAdd, Nat.reduceBEq, List.length_map]
  refine ⟨by omega, by omega, ⟨rfl, by simp [Seg.enc, AV.isCell, Value.oneCell']⟩, ?_⟩
  refine cond_split (fun hc => ?_) (fun hc => ?_)
  · simp only [go_sem, Nat.reduceBEq]
  have hcc : fewS ts ss = true ∧ (mergeS ts ss).2 = 0 ∧ 2 ≤ ss.length ∧ by_ ≠ 0 := by
    simp at hc
    exact ⟨hc.1.1.1, hc.1.1.2, by omega, hc.2⟩
  obtain ⟨hfew, hm0, hs2, hbn⟩ := hcc
  have hm : mergeS ts ss = ((mergeS ts ss).1, 0) := by rw [← hm0]
  obtain ⟨m1, m2, m3, m4, m5, m6, m7⟩ := merge_ok hm
  have ht1 := (listS_ok m1).2.1
  obtain ⟨a, ha⟩ : ∃ a : Nat, wh.tmod ss.length = (a : Int) ∧ a < ss.length := by
    refine ⟨(wh.tmod ss.length).toNat, ?_, ?_⟩
    · have := Int.tmod_nonneg (ss.length : Int) hw0
      omega
    · have := Int.tmod_lt_of_pos wh (show (0 : Int) < ss.length by omega)
      omega
  obtain ⟨ha1, ha2⟩ := ha
  have hwr : IntKind.i64.wrap wh = wh := wrap_in (by unfold InR; omega)
  have hg0 : (ts.map Tsk.enc).getD 0 [] = ts[0].enc := getD_tsk (by omega)
  have hfl : ((ss.map Seg.enc).flatten).length = ss.length * 5 := by
    rw [flat_len segs_len]
    simp
  simp only [go_sem, Nat.reduceAdd, Nat.reduceBEq, Nat.reduceLeDiff, List.length_map, hwr, ha1, Int.toNat_natCast, hg0, flat0 ha2, Tsk.enc, hfl]
  refine ⟨by omega, by omega, segs_len, ⟨by omega, by unfold maxLen; omega, by omega⟩, by omega, by omega, by omega, ?_⟩
  refine cond_split (fun he => ?_) (fun he => ?_)
  · simp only [go_sem, Nat.reduceBEq]
  have hfrom : ss[a].from_ ≠ ts[0].from_ := by simpa using he
  simp only [go_sem, Nat.reduceBEq, Int.toNat_natCast, flat2 ha2, hfl]
  have hput : ((ss.map Seg.enc).flatten).take (a * 5 + 2) ++ [AV.vl (Value.int IntKind.u64 (bitv BinOp.xor IntKind.u64 ss[a].beg by_))] ++ ((ss.map Seg.enc).flatten).drop (a * 5 + 2 + 1) = ((ss.set a { ss[a] with beg := xorU ss[a].beg by_ }).map Seg.enc).flatten := flat_put ha2 (by omega) rfl
  rw [hput]
  have hrl : ss[a].rs.length ≤ 5000 := by
    have hv := List.all_eq_true.1 m3 _ (List.getElem_mem ha2)
    simp only [validS, Seg.base, Bool.and_eq_true, decide_eq_true_eq] at hv
    omega
  generalize hss1 : ss.set a { ss[a] with beg := xorU ss[a].beg by_ } = ss1
  have hl1 : ss1.length = ss.length := by rw [← hss1, List.length_set]
  have ha3 : a < ss1.length := by omega
  have hs1 : ss1[a] = { ss[a] with beg := xorU ss[a].beg by_ } := by
    subst hss1
    simp
  have hfl1 : ((ss1.map Seg.enc).flatten).length = ss.length * 5 := by
    rw [flat_len segs_len]
    simp [hl1]
  rw [flat2 ha3, hfl1]
  refine ⟨by omega, by omega, by omega, by omega, by omega, by omega, ?_⟩
  refine loop_use (fun m s => ∃ i : Nat, i ≤ ss[a].rs.length ∧ m = ss[a].rs.length - i ∧ s = ⟨[(16, I i), (15, U ((ss[a].rs.take i).foldl digestS (xorU ss[a].beg by_))), (14, .osl 5 2 0 ss.length ss.length), (13, I a), (9, B true), (0, .sl (ts.map Tsk.enc))], [(2, .cs (ss1.map Seg.enc).flatten)], 3⟩) ss[a].rs.length _ ⟨0, by omega, rfl, rfl⟩ (by simp) ?_ ?_
  · refine le_use ?_
    simp only [go_sem, Nat.reduceBEq]
    exact ⟨⟨rfl, by rw [hs1]; rfl, by simp [lb], tsks_lb _ _⟩, by omega, flatC_lbs _ _⟩
  · rintro m s ⟨i, hi, rfl, rfl⟩
    have h4 : (((ss1.map Seg.enc).flatten).drop (a * 5 + 4)).headD .any = .sl (ss[a].rs.map Rec.enc) := by
      rw [flat4 ha3, hs1]
    simp only [go_sem, Nat.reduceBEq, Int.toNat_natCast, h4, hfl1, List.length_map]
    refine ⟨by omega, by omega, ?_⟩
    refine cond_split (fun hd => ?_) (fun hd => ?_)
    · have hlt : i < ss[a].rs.length := by simp at hd; omega
      simp only [go_sem, Nat.reduceBEq, Int.toNat_natCast, h4, hfl1, List.length_map, getD_enc hlt, Rec.len_enc]
      rw [show List.take 11 (ss[a].rs[i]).enc = (ss[a].rs[i]).enc from rfl]
      refine ⟨by omega, by omega, by omega, call_eq (by simp [lbs, lb, Rec.lbs_enc]) (c17 _ _) ?_⟩
      simp only [go_sem, Nat.reduceBEq]
      refine ⟨by unfold InR; omega, ss[a].rs.length - (i + 1), _, by omega, ⟨i + 1, hlt, rfl, rfl⟩, by simp, ?_⟩
      refine le_use ?_
      simp only [go_sem, Nat.reduceBEq]
      exact ⟨⟨by simp, by rw [take_rec hlt], by simp [lb], tsks_lb _ _⟩, by omega, flatC_lbs _ _⟩
    · have hge : i = ss[a].rs.length := by simp at hd; omega
      subst hge
      simp only [go_sem, Nat.reduceBEq, Int.toNat_natCast, hfl1, List.take_length]
      have hput2 : ((ss1.map Seg.enc).flatten).take (a * 5 + 3) ++ [AV.vl (Value.int IntKind.u64 (List.foldl digestS (xorU ss[a].beg by_) ss[a].rs))] ++ ((ss1.map Seg.enc).flatten).drop (a * 5 + 3 + 1) = ((ss.set a (turned by_ ss[a])).map Seg.enc).flatten := by
        have := flat_put (c := 3) (x := AV.vl (Value.int IntKind.u64 (List.foldl digestS (xorU ss[a].beg by_) ss[a].rs))) (s' := turned by_ ss[a]) ha3 (by omega) (by rw [hs1]; rfl)
        rw [this, ← hss1, List.set_set]
      rw [hput2]
      have hl2 : (ss.set a (turned by_ ss[a])).length = ss.length := by simp
      refine ⟨by omega, by omega, callF_eq [2] [.sl (ts.map Tsk.enc), .sl ((ss.set a (turned by_ ss[a])).map Seg.enc)] ?_ (by simp only [lbs, lb]; exact ⟨tsks_lb _ _, segs_lb _ _, trivial⟩) (c12e ts _ hts) ?_⟩
      · have hkp : ∀ x, keepL [2] [(2, x)] = [(2, x)] := fun x => rfl
        have ho : AV.osl 5 2 0 ss.length ss.length = olst 5 2 ((ss.set a (turned by_ ss[a])).map Seg.enc).length := by
          rw [List.length_map, hl2]
          obtain ⟨k, hk⟩ : ∃ k, ss.length = k + 1 := ⟨ss.length - 1, by omega⟩
          rw [hk, olst_pos]
        rw [hkp, ho, List.map_cons, List.map_cons, List.map_nil, frz_rows (fun _ => by simp [look]) segs_len (fun e he => by
          obtain ⟨x, _, rfl⟩ := List.mem_map.1 he
          simp [Seg.enc, frz]), if_neg (by rw [List.length_map, hl2]; omega)]
        simp [frz]
      have h11 := merge_turned hm ha2 (by omega) hfrom hb0 hb1 hbn
      simp only [go_sem, Nat.reduceAdd, Nat.reduceBEq, h11]
      exact ⟨by omega, by omega, ⟨rfl, by simp [Seg.enc, AV.isCell, Value.oneCell']⟩, by simp⟩
end Go.QL
