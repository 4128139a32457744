/- Rows of segments, in the memory: what the sort does to them. -/
import Derived.Test.YtfhkfahgimibaaaW11
import Derived.Shelf.SlSortCmp.WholeK
namespace Go.QL
open Go.Proofs Go.Proofs.Try Go.Sort
section
variable {α : Type} [Inhabited α]
theorem fl_get (k : Nat) : ∀ (l : List (List Value)) (t : Nat), (∀ e ∈ l, e.length = k) → t < l.length * k → l.flatten[t]! = (l[t / k]!)[t % k]!
  | [], t, _, h => by simp at h
  | e :: l, t, he, h => by
    have hek : e.length = k := he e (by simp)
    have hk : 0 < k := by
      rcases Nat.eq_zero_or_pos k with h0 | h0
      · subst h0
        simp at h
      · exact h0
    rw [List.flatten_cons]
    by_cases ht : t < k
    · rw [Nat.div_eq_of_lt ht, Nat.mod_eq_of_lt ht]
      simp only [List.getElem!_eq_getElem?_getD]
      rw [List.getElem?_append_left (by omega)]
      simp
    · obtain ⟨u, rfl⟩ : ∃ u, t = k + u := ⟨t - k, by omega⟩
      have ih := fl_get k l u (fun e he' => he e (by simp [he'])) (by
        simp only [List.length_cons, Nat.add_mul, Nat.one_mul] at h
        omega)
      rw [show (k + u) / k = u / k + 1 by rw [Nat.add_div_left _ hk], show (k + u) % k = u % k by simp]
      simp only [List.getElem!_eq_getElem?_getD] at ih ⊢
      rw [List.getElem?_append_right (by omega)]
      simpa [hek] using ih
theorem flatK_eq (enc : α → List Value) (k : Nat) (hk : ∀ x, (enc x).length = k) (d : Array α) : flatK enc k d = ((d.toList.map enc).flatten).toArray := by
  have hl : ((d.toList.map enc).flatten).length = d.size * k := by
    rw [List.length_flatten, List.map_map]
    have : (List.length ∘ enc) = fun _ => k := funext fun x => hk x
    rw [this, List.map_const', List.sum_replicate_nat]
    simp
  refine ext_get! (by simp [hl]) fun t ht => ?_
  have ht' : t < d.size * k := by simpa using ht
  rw [get_flatK _ _ _ _ ht']
  have := fl_get k (d.toList.map enc) t (fun e he => by
    obtain ⟨x, _, rfl⟩ := List.mem_map.1 he
    exact hk x) (by simpa using ht')
  have hdk : t / k < d.size := by
    rcases Nat.eq_zero_or_pos k with h0 | h0
    · subst h0
      simp at ht'
    · exact (Nat.div_lt_iff_lt_mul h0).2 ht'
  have e1 : ((d.toList.map enc).flatten.toArray)[t]! = (d.toList.map enc).flatten[t]! := by
    simp
  rw [e1, this]
  simp [hdk]
/-- A row's cells, laid. -/
theorem put_take {F c : Array Value} (h : F.size ≤ c.size) : ((putCells id 0 F c).toList.take F.size) = F.toList := by
  refine List.ext_getElem (by simp [putCells]; omega) fun i h1 h2 => ?_
  have hi : i < F.size := by simpa using h2
  simp [putCells, hi]
theorem putC_size (F c : Array Value) : (putCells id 0 F c).size = c.size := by simp [putCells]
theorem put_mem {F c : Array Value} {p : Value → Prop} (hF : ∀ v ∈ F.toList, p v) (hc : ∀ v ∈ c.toList, p v) : ∀ v ∈ (putCells id 0 F c).toList, p v := by
  intro v hv
  obtain ⟨i, hi, rfl⟩ := List.mem_iff_getElem.1 hv
  simp only [putCells, Array.toList_mapIdx] at hi ⊢
  simp only [List.length_mapIdx] at hi
  simp only [List.getElem_mapIdx]
  split
  · rename_i h
    apply hF
    have : i < F.size := by omega
    simp [this]
  · exact hc _ (List.getElem_mem _)
/-- A world that the sort passes through. -/
theorem sw_facts (enc : α → List Value) (k : Nat) (w : World) (blk m : Nat) (d : Array α) (os : Array Obj) {c : Array Value} {T : TypeId} (hb : w.heap[blk]? = some (.cells c T (0, 0))) :
    Fr w (fun b => b = blk) (sortWorldK enc k w blk 0 m d os) ∧ (sortWorldK enc k w blk 0 m d os).heap[blk]? = some (.cells (putCells id 0 (flatK enc k d) c) T (0, 0)) := by
  have hlt : blk < w.heap.size := by
    refine Classical.byContradiction fun h => ?_
    rw [Array.getElem?_eq_none (by omega)] at hb
    cases hb
  have hold : ∀ b, b < w.heap.size → (sortWorldK enc k w blk 0 m d os).heap[b]? = (w.heap.modify blk (onCells (putCells id 0 (flatK enc k d))))[b]? := by
    intro b hb
    unfold sortWorldK
    rw [heap_grow_old _ _ (by simpa [putRowK] using hb)]
    rfl
  have hrow : (sortWorldK enc k w blk 0 m d os).heap[blk]? = some (.cells (putCells id 0 (flatK enc k d) c) T (0, 0)) := by
    rw [hold _ hlt, Array.getElem?_modify, if_pos rfl, hb]
    rfl
  have hne : ∀ b, b < w.heap.size → b ≠ blk → (sortWorldK enc k w blk 0 m d os).heap[b]? = w.heap[b]? := by
    intro b hb' h
    rw [hold _ hb', Array.getElem?_modify, if_neg (Ne.symm h)]
  refine ⟨⟨rfl, rfl, rfl, ?_, hne, ?_, ?_⟩, hrow⟩
  · unfold sortWorldK
    simp [putRowK]
  · intro b c' T' hc'
    by_cases e : b = blk
    · subst e
      rw [hb] at hc'
      cases hc'
      exact ⟨_, hrow, putC_size _ _⟩
    · refine ⟨c', ?_, rfl⟩
      rw [hne b (Array.getElem?_eq_some_iff.1 hc').1 e]
      exact hc'
  · show w.drawn ≤ w.drawn + m
    omega
end
/-- Only new blocks and draws. -/
theorem fr_grow {w w' : World} (h : Fr w (fun _ => False) w') : ∃ q os, w' = grow (w.drewN q) os := by
  refine ⟨w'.drawn - w.drawn, w'.heap.extract w.heap.size w'.heap.size, ?_⟩
  obtain ⟨heap', tape', drawn', os', out'⟩ := w'
  have h1 := h.os
  have h2 := h.tape
  have h3 := h.output
  have h4 := h.size
  have h5 := h.drawn
  simp only at h1 h2 h3 h4 h5
  subst h1 h2 h3
  simp only [grow, World.drewN]
  congr 1
  · apply Array.ext_getElem?
    intro i
    by_cases hi : i < w.heap.size
    · rw [Array.getElem?_append_left hi]
      exact h.keep i hi id
    · rw [Array.getElem?_append_right (by omega), Array.getElem?_extract]
      split
      · congr 1
        omega
      · rw [Array.getElem?_eq_none (by simp at *; omega)]
  · omega
end Go.QL
