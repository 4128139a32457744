/- Own rows that are let go. -/
import Derived.Test.YtfhkfahgimibaaaRen
namespace Go.QL

def chunks (sz : Nat) : Nat → List AV → List (List AV)
  | 0, _ => []
  | n + 1, cs => cs.take sz :: chunks sz n (cs.drop sz)

/-- What becomes of the own rows when nothing can change them any more. -/
def frz (σ : List (Nat × Bx)) : Nat → AV → AV
  | 0, x => x
  | d + 1, x => match x with
    | .osl sz l off len cap => match look σ l with
      | some (.cs cs) => if off + len * sz ≤ cs.length then .sl ((chunks sz len (cs.drop off)).map fun e => e.map (frz σ d)) else .osl sz l off len cap
      | _ => .osl sz l off len cap
    | .agg cs => .agg (cs.map (frz σ d))
    | .tup cs => .tup (cs.map (frz σ d))
    | .gd g y => .gd g (frz σ d y)
    | x => x

theorem DenL.mapf {k k' : KW} {f : AV → AV} (hf : ∀ x y, Den k x y → Den k' (f x) y) : ∀ {xs : List AV} {ys : List Value}, DenL k xs ys → DenL k' (xs.map f) ys
  | [], [], _ => by simp [DenL]
  | [], _ :: _, h => by simp [DenL] at h
  | _ :: _, [], h => by simp [DenL] at h
  | x :: xs, y :: ys, h => by
    simp only [DenL, List.map_cons] at h ⊢
    exact ⟨hf _ _ h.1, DenL.mapf hf h.2⟩

theorem chunks_spec (sz : Nat) : ∀ (n : Nat) (cs : List AV), n * sz ≤ cs.length → (chunks sz n cs).length = n ∧ ∀ (i : Nat) (e : List AV), (chunks sz n cs)[i]? = some e → e = (cs.drop (i * sz)).take sz ∧ i < n
  | 0, cs, h => by simp [chunks]
  | n + 1, cs, h => by
    rw [Nat.add_mul] at h
    obtain ⟨h1, h2⟩ := chunks_spec sz n (cs.drop sz) (by simp; omega)
    refine ⟨by simp [chunks, h1], fun i e he => ?_⟩
    cases i with
    | zero =>
      simp [chunks] at he
      simp [he]
    | succ i =>
      simp only [chunks, List.getElem?_cons_succ] at he
      obtain ⟨h3, h4⟩ := h2 i e he
      refine ⟨?_, by omega⟩
      rw [h3, List.drop_drop]
      congr 2
      rw [Nat.add_mul]
      omega

/-- Out of a world in which some own blocks are let go. -/
theorem frz_den {k k' : KW} {σ : List (Nat × Bx)} (h : k.le k') (hb : ∀ l x, look σ l = some x → BxOK k l x) (hm : ∀ l x b, look σ l = some x → k.ρ l = some b → ¬ k'.M b ∧ k'.w.heap[b]? = k.w.heap[b]?) :
    ∀ (d : Nat) (x : AV) (y : Value), Den k x y → Den k' (frz σ d x) y
  | 0, x, y, hd => Den.mono h x y hd
  | d + 1, x, y, hd => by
    unfold frz
    split
    · rename_i sz l off len cap
      split
      · rename_i cs hl
        split
        · rename_i hlen
          simp only [Den] at hd ⊢
          obtain ⟨a, cap', h1, h2, h3, h4, h5⟩ := hd
          obtain ⟨hc1, hc2⟩ := chunks_spec sz len (cs.drop off) (by simp; omega)
          have hcl : ((chunks sz len (cs.drop off)).map fun e => e.map (frz σ d)).length = len := by simp [hc1]
          refine ⟨a, cap', by rw [hcl]; exact h1, by rw [hcl]; exact h3, h4, ?_⟩
          rcases h5 with h5 | ⟨b, vs, T, h6, h7, h8, h9⟩
          · left
            have : len = 0 := by omega
            exact List.eq_nil_of_length_eq_zero (by rw [hcl]; exact this)
          · right
            have hbx := hb l _ hl
            simp only [BxOK] at hbx
            obtain ⟨hm1, hm2⟩ := hm l _ b hl h6
            rcases hbx with ⟨_, h0⟩ | ⟨b', vs', T', hb', hM, hheap, hone, hle, hdl⟩
            · rw [h6] at h0
              cases h0
            · rw [h6] at hb'
              cases hb'
              rw [h8] at hheap
              cases hheap
              have hblt : b < k.w.heap.size := (Array.getElem?_eq_some_iff.1 h8).1
              refine ⟨b, off, sz, h7, Nat.lt_of_lt_of_le hblt h.size, hm1, DenEs.of_get fun i e he => ?_⟩
              rw [List.getElem?_map] at he
              cases hce : (chunks sz len (cs.drop off))[i]? with
              | none => simp [hce] at he
              | some e0 =>
                simp [hce] at he
                obtain ⟨h10, h11⟩ := hc2 i e0 hce
                subst he
                have hi : i * sz + sz ≤ len * sz := by
                  have : (i + 1) * sz ≤ len * sz := Nat.mul_le_mul_right _ (by omega)
                  rwa [Nat.add_mul, Nat.one_mul] at this
                refine ⟨by rw [h10]; simp; omega, DenCs.of_get fun j x hx => ?_⟩
                rw [List.getElem?_map] at hx
                cases hx0 : e0[j]? with
                | none => simp [hx0] at hx
                | some x0 =>
                  simp [hx0] at hx
                  subst hx
                  rw [h10, List.getElem?_take] at hx0
                  split at hx0
                  · rename_i hj
                    rw [List.getElem?_drop, List.getElem?_drop] at hx0
                    obtain ⟨y0, hy0, hd0⟩ := DenL.get hdl hx0
                    rw [List.getElem?_take] at hy0
                    split at hy0
                    · refine ⟨y0, ?_, hone y0 (List.mem_of_getElem? hy0), frz_den h hb hm d x0 y0 hd0⟩
                      simp only [World.cell?, hm2, h8]
                      simp only [Array.getElem?_toList] at hy0
                      rw [← hy0]
                      simp only [Option.isSome_none, Bool.false_eq_true, if_false]
                      congr 1
                      omega
                    · cases hy0
                  · cases hx0
        · exact Den.mono h _ y hd
      · exact Den.mono h _ y hd
    · simp only [Den] at hd ⊢
      obtain ⟨vs, h1, h2⟩ := hd
      exact ⟨vs, h1, DenL.mapf (fun x y => frz_den h hb hm d x y) h2⟩
    · simp only [Den] at hd ⊢
      obtain ⟨vs, h1, h2⟩ := hd
      exact ⟨vs, h1, DenL.mapf (fun x y => frz_den h hb hm d x y) h2⟩
    · simp only [Den] at hd ⊢
      exact ⟨fun hg => frz_den h hb hm d _ y (hd.1 hg), hd.2⟩
    · exact Den.mono h x y hd

def keepL (ks : List Nat) : List (Nat × Bx) → List (Nat × Bx)
  | [] => []
  | (j, x) :: r => if ks.contains j then (j, x) :: keepL ks r else keepL ks r

theorem look_keepL {ks : List Nat} : ∀ {σ : List (Nat × Bx)} {i : Nat} {x : Bx}, look (keepL ks σ) i = some x → i ∈ ks ∧ look σ i = some x
  | [], _, _, h => by simp [keepL, look] at h
  | (j, y) :: r, i, x, h => by
    simp only [keepL] at h
    split at h
    · rename_i hc
      simp only [look] at h ⊢
      split at h
      · rename_i e
        subst e
        exact ⟨by simpa using hc, by simpa using h⟩
      · rename_i e
        rw [if_neg e]
        exact look_keepL h
    · rename_i hc
      obtain ⟨h1, h2⟩ := look_keepL h
      refine ⟨h1, ?_⟩
      simp only [look]
      rw [if_neg]
      · exact h2
      · intro e
        subst e
        exact hc (by simpa using h1)

end Go.QL
