/- Merging: what is computed. -/
import Derived.Test.YtfhkfahgimibaaaW15
namespace Go.QL
open Go.Proofs.Try
/-- The segments in the order of their tasks. -/
def placed (ts : List Tsk) (ss : List Seg) : List Seg := (List.range ts.length).map fun (k : Nat) => (ss.find? fun s => plcS ts s == (k : Int)).getD zeroS
def mergeS (ts : List Tsk) (ss : List Seg) : Seg × Int :=
  if listS ts = false ∨ 32 < ss.length then (zeroS, 1)
  else if ss.all validS = false then (zeroS, 1)
  else if (ss.all fun s => (belS ts s).isSome) = false then (zeroS, 18)
  else if ¬ (ss.map (plcS ts)).Nodup then (zeroS, 5)
  else if ss.length < ts.length then (zeroS, 4)
  else joinS (placed ts ss)
theorem join_one {s : Seg} (h : validS s = true) : joinS [s] = (s, 0) := by
  have hl : s.rs.length ≤ 5000 := by
    simp only [validS, Seg.base, Bool.and_eq_true, decide_eq_true_eq] at h
    omega
  simp [joinS, h, chainS, joined, show ¬ 5000 < s.rs.length by omega]
theorem join_one_no {s : Seg} (h : validS s = false) : joinS [s] = (zeroS, 1) := by
  simp [joinS, h]
theorem listS_ok {ts : List Tsk} (h : listS ts = true) : (∀ i, (hi : i < ts.length) → ts[i].num = i ∧ 0 ≤ ts[i].wk ∧ ts[i].wk ≤ 7 ∧ 0 ≤ ts[i].from_ ∧ ts[i].from_ < ts[i].to ∧ ts[i].to ≤ 10000000 ∧ (i = 0 ∨ ts[i - 1].to = ts[i].from_)) ∧ 1 ≤ ts.length ∧ ts.length ≤ 32 := by
  simp only [listS, Bool.and_eq_true, List.all_eq_true, List.mem_range, decide_eq_true_eq] at h
  exact ⟨fun i hi => (taskOK_eq hi).1 (h.1.1 i hi), h.1.2, h.2⟩
theorem list_inc {ts : List Tsk} (h : listS ts = true) : ∀ (j i : Nat), (hj : j < ts.length) → (hi : i < j) → ts[i].to ≤ ts[j].from_
  | 0, i, hj, hi => absurd hi (by omega)
  | j + 1, i, hj, hi => by
    have hj1 := (listS_ok h).1 (j + 1) hj
    have hj0 := (listS_ok h).1 j (by omega)
    simp only [Nat.add_sub_cancel, Nat.add_one_ne_zero, false_or] at hj1
    by_cases e : i = j
    · subst e
      omega
    · have := list_inc h j i (by omega) (by omega)
      omega
theorem list_nodup {ts : List Tsk} (h : listS ts = true) : (ts.map fun t => (t.from_, t.to)).Nodup := by
  rw [List.Nodup, List.pairwise_iff_getElem]
  intro i j hi hj hij
  simp only [List.length_map] at hi hj
  simp only [List.getElem_map, ne_eq, Prod.mk.injEq, not_and]
  intro e
  have := list_inc h j i hj hij
  have := (listS_ok h).1 i hi
  omega
/-- Keys that grow, each below a number that the length reaches, are the numbers. -/
theorem keys_id {n : Nat} (f : Nat → Int) (m : Nat) (h0 : ∀ i, i < m → 0 ≤ f i ∧ f i < n) (h1 : ∀ i j, i < j → j < m → f i < f j) (h2 : n ≤ m) : m = n ∧ ∀ i, i < m → f i = i := by
  have lo : ∀ i, i < m → (i : Int) ≤ f i := by
    intro i
    induction i with
    | zero => intro h; have := h0 0 h; omega
    | succ i ih => intro h; have := ih (by omega); have := h1 i (i + 1) (by omega) h; omega
  have hm : m = n := by
    refine Classical.byContradiction fun h => ?_
    have := lo (m - 1) (by omega)
    have := h0 (m - 1) (by omega)
    omega
  have hi : ∀ d i, i + d + 1 = m → f i ≤ i := by
    intro d
    induction d with
    | zero => intro i h; have := h0 i (by omega); omega
    | succ d ih => intro i h; have := ih (i + 1) (by omega); have := h1 i (i + 1) (by omega) (by omega); omega
  exact ⟨hm, fun i h => by have := lo i h; have := hi (m - 1 - i) i (by omega); omega⟩
theorem plcS_lt {ts : List Tsk} {s : Seg} (h : (belS ts s).isSome = true) : 0 ≤ plcS ts s ∧ plcS ts s < ts.length := by
  unfold plcS
  cases e : belS ts s with
  | none => simp [e] at h
  | some k =>
    have := (List.findIdx?_eq_some_iff_getElem.1 e).1
    simp only
    omega
theorem find_key {ss : List Seg} {f : Seg → Int} (hn : (ss.map f).Nodup) {s : Seg} (hs : s ∈ ss) : ss.find? (fun x => f x == f s) = some s := by
  induction ss with
  | nil => cases hs
  | cons a ss ih =>
    rw [List.map_cons, List.nodup_cons] at hn
    rcases List.mem_cons.1 hs with rfl | hs'
    · simp
    · have hne : f a ≠ f s := fun e => hn.1 (e ▸ List.mem_map.2 ⟨s, hs', rfl⟩)
      rw [List.find?_cons_of_neg (by simpa using hne)]
      exact ih hn.2 hs'
theorem placed_eq {ts : List Tsk} {ss ss' : List Seg} (hp : ss'.Perm ss) (hb : ∀ s ∈ ss, (belS ts s).isSome = true) (hs : ss'.Pairwise fun a b => plcS ts a < plcS ts b) (hl : ts.length ≤ ss.length) : ss' = placed ts ss := by
  have hlen : ss'.length = ss.length := hp.length_eq
  have hb' : ∀ s ∈ ss', (belS ts s).isSome = true := fun s h => hb s (hp.mem_iff.1 h)
  have hpw := List.pairwise_iff_getElem.1 hs
  have hk := keys_id (n := ts.length) (fun i => if h : i < ss'.length then plcS ts ss'[i] else 0) ss'.length (fun i hi => by
    simp only [hi, dite_true]
    exact plcS_lt (hb' _ (List.getElem_mem hi))) (fun i j hij hj => by
    have hi : i < ss'.length := by omega
    simp only [hi, hj, dite_true]
    exact hpw i j hi hj hij) (by omega)
  have hnd : (ss.map (plcS ts)).Nodup := by
    refine ((hp.map (plcS ts)).nodup_iff).1 ?_
    rw [List.Nodup, List.pairwise_map]
    exact hs.imp fun h => by omega
  refine List.ext_getElem (by simp [placed, hk.1]) fun i h1 h2 => ?_
  have hi := hk.2 i h1
  simp only [h1, dite_true] at hi
  simp only [placed, List.getElem_map, List.getElem_range]
  rw [← hi, find_key hnd (hp.mem_iff.1 (List.getElem_mem h1))]
  rfl
theorem nodup_of {ts : List Tsk} {ss ss' : List Seg} (hp : ss'.Perm ss) : (ss'.map (plcS ts)).Nodup ↔ (ss.map (plcS ts)).Nodup := (hp.map _).nodup_iff
theorem sorted_lt {ts : List Tsk} {ss' : List Seg} (hs : ss'.Pairwise fun a b => plcS ts a ≤ plcS ts b) (h : ∀ i, (hi : i + 1 < ss'.length) → plcS ts ss'[i] ≠ plcS ts ss'[i + 1]) : ss'.Pairwise fun a b => plcS ts a < plcS ts b := by
  have hpw := List.pairwise_iff_getElem.1 hs
  rw [List.pairwise_iff_getElem]
  intro i j hi hj hij
  have h1 := hpw i (i + 1) hi (by omega) (by omega)
  have h2 := h i (by omega)
  by_cases e : i + 1 = j
  · subst e
    omega
  · have := hpw (i + 1) j (by omega) hj (by omega)
    omega
theorem placed_len (ts : List Tsk) (ss : List Seg) : (placed ts ss).length = ts.length := by simp [placed]
end Go.QL
