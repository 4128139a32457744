/- Contract: slices.SortFunc of segments by the places of their tasks. -/
import Derived.Test.YtfhkfahgimibaaaW12
import Derived.Test.YtfhkfahgimibaaaLay
import Derived.Shelf.SlSortCmp.WholeK
namespace Go.QL
open Go.Proofs Go.Proofs.Try Go.Sort
theorem BxOK.keep' {k k' : KW} (hk : k.le k') {l : Nat} {x : Bx} (h : BxOK k l x) (hm : ∀ b, k.ρ l = some b → k'.M b ∧ k'.w.heap[b]? = k.w.heap[b]?) : BxOK k' l x := by
  cases x with
  | cs c =>
    simp only [BxOK, hk.ρ] at h ⊢
    rcases h with h | ⟨b, vs, T, h1, h2, h3, h4, h5, h6⟩
    · exact .inl h
    · exact .inr ⟨b, vs, T, h1, (hm b h1).1, (hm b h1).2.trans h3, h4, h5, DenL.mono hk _ _ h6⟩
  | mp es =>
    simp only [BxOK, hk.ρ] at h ⊢
    obtain ⟨b, ents, clock, h1, h2, h3, h4, h5, h6, h7⟩ := h
    exact ⟨b, ents, clock, h1, (hm b h1).1, (hm b h1).2.trans h3, h4, h5, h6, DenL.mono hk _ _ h7⟩
  | yc b y =>
    simp only [BxOK, hk.ρ] at h ⊢
    exact h
theorem BxOK.own {k : KW} {l b : Nat} {x : Bx} (h : BxOK k l x) (hb : k.ρ l = some b) : k.M b := by
  cases x with
  | cs c =>
    simp only [BxOK] at h
    rcases h with ⟨_, h⟩ | ⟨b', vs, T, h1, h2, _⟩
    · rw [h] at hb
      cases hb
    · rw [h1] at hb
      cases hb
      exact h2
  | mp es =>
    simp only [BxOK] at h
    obtain ⟨b', ents, clock, h1, h2, _⟩ := h
    rw [h1] at hb
    cases hb
    exact h2
  | yc b y =>
    simp only [BxOK] at h
    rw [h] at hb
    cases hb
theorem DenL.free {w : World} {M : Nat → Prop} {ρ ρ' : Nat → Option Nat} {cs : List AV} {vs : List Value} (h : lbs 0 cs) (hd : DenL ⟨w, M, ρ⟩ cs vs) : DenL ⟨w, M, ρ'⟩ cs vs := DenL.agree (n := 0) (fun l hl => absurd hl (Nat.not_lt_zero _)) cs vs h hd
theorem rows_of {w : World} {M : Nat → Prop} {ρ : Nat → Option Nat} : ∀ (ss : List Seg) (vals : List Value), DenL ⟨w, M, ρ⟩ (ss.map Seg.enc).flatten vals →
    ∃ ps : List (Seg × List Value), ps.map (·.1) = ss ∧ (ps.map (·.2)).flatten = vals ∧ ∀ p ∈ ps, p.2.length = 5 ∧ ∀ ρ', DenL ⟨w, M, ρ'⟩ p.1.enc p.2
  | [], vals, h => by
    cases vals with
    | nil => exact ⟨[], rfl, rfl, by simp⟩
    | cons v vs => simp [DenL] at h
  | s :: ss, vals, h => by
    rw [List.map_cons, List.flatten_cons] at h
    have h1 : DenL ⟨w, M, ρ⟩ s.enc (vals.take 5) := by
      have := DenL.take 5 h
      rwa [List.take_append_of_le_length (by simp [Seg.len_enc]), List.take_of_length_le (by simp [Seg.len_enc])] at this
    have h2 : DenL ⟨w, M, ρ⟩ (ss.map Seg.enc).flatten (vals.drop 5) := by
      have := DenL.drop 5 h
      rwa [List.drop_append_of_le_length (by simp [Seg.len_enc]), List.drop_of_length_le (by simp [Seg.len_enc]), List.nil_append] at this
    obtain ⟨ps, h3, h4, h5⟩ := rows_of ss _ h2
    refine ⟨(s, vals.take 5) :: ps, by simp [h3], by simp [h4], ?_⟩
    intro p hp
    rcases List.mem_cons.1 hp with rfl | hp
    · refine ⟨?_, fun ρ' => DenL.free (s.lbs_enc 0) h1⟩
      have := h1.length
      simpa [Seg.len_enc] using this.symm
    · exact h5 p hp
theorem den_rows {k : KW} : ∀ (ps : List (Seg × List Value)), (∀ p ∈ ps, DenL k p.1.enc p.2) → DenL k ((ps.map (·.1)).map Seg.enc).flatten (ps.map (·.2)).flatten
  | [], _ => by simp [DenL]
  | p :: ps, h => by
    simp only [List.map_cons, List.flatten_cons]
    exact DenL.append (h p (by simp)) (den_rows ps fun q hq => h q (by simp [hq]))
def pσ3 (ts : List Tsk) : List (Nat × Bx) := [(2, .cs [.fn (.func 26) [] [.ptr 1 0]]), (1, .cs [.mp 0]), (0, .mp (plcF 0 ts))]
theorem plcF_keys (k : Nat) (ts : List Tsk) : (plcF k ts).map (·.1) = (plcI k ts).map (·.1) := by
  rw [← plcI_map, List.map_map]
  rfl
theorem denL_vls {k : KW} : ∀ {vs us : List Value}, DenL k (vs.map .vl) us → us = vs
  | [], [], _ => rfl
  | [], _ :: _, h => by simp [DenL] at h
  | _ :: _, [], h => by simp [DenL] at h
  | v :: vs, u :: us, h => by
    simp only [List.map_cons, DenL, Den] at h
    rw [h.1, denL_vls h.2]
theorem plcF_vals (k : Nat) (ts : List Tsk) : (plcF k ts).map (·.2) = ((plcI k ts).map (·.2)).map .vl := by
  rw [← plcI_map, List.map_map, List.map_map]
  rfl
/-- A segment and the values that it describes. -/
abbrev RowE (w : World) (M : Nat → Prop) : Type := { p : Seg × List Value // p.2.length = 5 ∧ (∀ v ∈ p.2, v.oneCell' = true) ∧ ∀ ρ, DenL ⟨w, M, ρ⟩ p.1.enc p.2 }
instance (w : World) (M : Nat → Prop) : Inhabited (RowE w M) := ⟨⟨(⟨0, 0, 0, 0, []⟩, [.int .i64 0, .int .i64 0, .int .u64 0, .int .u64 0, .slice none 0 0]), rfl, by simp [Value.oneCell'], fun ρ => by
  simp [Seg.enc, DenL, Den, maxLen]
  exact ⟨none, 0, ⟨rfl, rfl⟩, by omega⟩⟩⟩
theorem cmp_ok {ts : List Tsk} (hts : ts.length < 2 ^ 62) {w : World} {M : Nat → Prop} {blk size b1 b2 : Nat} {rv : Array Value} {T : TypeId} (hM : ∀ b, M b → b < w.heap.size) (hblk : w.heap[blk]? = some (.cells rv T (0, 0))) (hMb : M blk) (h1 : b1 ≠ blk) (h2 : b2 ≠ blk)
    {m0 : Nat} (h0 : m0 ≠ blk) {ents : Array MapEntry} {clock : Nat} (hm : w.heap[m0]? = some (.map ents clock)) (hkeys : ents.toList.map (·.key) = (plcI 0 ts).map (·.1)) (hvals : ents.toList.map (·.val) = (plcI 0 ts).map (·.2))
    {v1 v2 : Array Value} {T1 T2 : TypeId} (hb1 : w.heap[b1]? = some (.cells v1 T1 (0, 0))) (hb2 : w.heap[b2]? = some (.cells v2 T2 (0, 0))) (hc1 : v1[0]? = some (.map (some m0))) (hc2 : v2[0]? = some (.func (.func 26) #[] #[.pointer (some ⟨b1, 0, none⟩)])) :
    CmpLays prog 29 #[.pointer (some ⟨b2, 0, none⟩)] (fun x : RowE w M => x.1.2) 5 (fun x y => plcS ts x.1.1 - plcS ts y.1.1) blk 0 size w := by
  intro m os dk hdk x y
  have lt : ∀ {b : Nat} {o : Obj}, w.heap[b]? = some o → b < w.heap.size := fun h => (Array.getElem?_eq_some_iff.1 h).1
  obtain ⟨hfr, hrow⟩ := sw_facts (fun x : RowE w M => x.1.2) 5 w blk m dk os hblk
  have hle : ∀ ρ, KW.le ⟨w, M, ρ⟩ ⟨sortWorldK (fun x : RowE w M => x.1.2) 5 w blk 0 m dk os, fun b => M b ∧ b ≠ m0 ∧ b ≠ b1 ∧ b ≠ b2, ρ⟩ := fun ρ =>
    ⟨hfr.size, fun b hb hm' => ⟨fun h => hm' h.1, hfr.keep b hb fun e => hm' (e ▸ hMb)⟩, hfr.rows, rfl⟩
  have ek : ∀ b, b < w.heap.size → b ≠ blk → (sortWorldK (fun x : RowE w M => x.1.2) 5 w blk 0 m dk os).heap[b]? = w.heap[b]? := fun b hb hne => hfr.keep b hb hne
  have hden : DenL ⟨sortWorldK (fun x : RowE w M => x.1.2) 5 w blk 0 m dk os, fun b => M b ∧ b ≠ m0 ∧ b ≠ b1 ∧ b ≠ b2, fun _ => none⟩ [.agg x.1.1.enc, .agg y.1.1.enc, .dp [.fn (.func 26) [] [.dp [.imp (plcI 0 ts)]]]] [.agg x.1.2.toArray, .agg y.1.2.toArray, .pointer (some ⟨b2, 0, none⟩)] := by
    simp only [DenL, Den, and_true]
    refine ⟨⟨_, rfl, DenL.mono (hle _) _ _ (x.2.2.2 _)⟩, ⟨_, rfl, DenL.mono (hle _) _ _ (y.2.2.2 _)⟩, b2, 0, rfl, Nat.lt_of_lt_of_le (lt hb2) hfr.size, by simp, ?_⟩
    simp only [DenCs, Den, and_true]
    refine ⟨.func (.func 26) #[] #[.pointer (some ⟨b1, 0, none⟩)], ?_, rfl, ?_⟩
    · simp [World.cell?, ek b2 (lt hb2) h2, hb2, hc2]
    · refine ⟨_, _, rfl, trivial, ?_⟩
      simp only [DenL, Den, and_true]
      refine ⟨b1, 0, rfl, Nat.lt_of_lt_of_le (lt hb1) hfr.size, by simp, ?_⟩
      simp only [DenCs, Den, and_true]
      refine ⟨.map (some m0), ?_, rfl, m0, ents, clock, rfl, Nat.lt_of_lt_of_le (lt hm) hfr.size, by simp, ?_, hkeys, hvals⟩
      · simp [World.cell?, ek b1 (lt hb1) h1, hb1, hc1]
      · rw [ek m0 (lt hm) h0]
        exact hm
  have hcall := c29i ts hts x.1.1 y.1.1 (sortWorldK (fun x : RowE w M => x.1.2) 5 w blk 0 m dk os) (fun b => M b ∧ b ≠ m0 ∧ b ≠ b1 ∧ b ≠ b2) (fun _ => none) _ (fun b hb => Nat.lt_of_lt_of_le (hM b hb.1) hfr.size)
    (fun ρ' _ => ⟨DenL.free (by simp [lbs, lb, Seg.lbs_enc]) hden, fun l x h => by simp [look] at h⟩) (fun l x h => by simp [look] at h) (fun l l' x x' b h => by simp [look] at h)
  refine hcall.mono ?_
  rintro e w' ⟨v, ρ', r, σ', rfl, ⟨rfl, rfl⟩, _, _, _, hfr', _, hd⟩
  have hv := (hd ρ' fun _ _ => rfl).1
  simp only [Den] at hv
  subst hv
  refine ⟨rfl, fr_grow (hfr'.mono ?_)⟩
  rintro b ⟨l, x, h, _⟩
  simp [look] at h
/-- What the sort leaves. -/
def sortPost (ts : List Tsk) (ss : List Seg) (r : AV) (σ : List (Nat × Bx)) : Prop := r = .tup [] ∧ ∃ ss' : List Seg, ss'.Perm ss ∧ ss'.Pairwise (fun a b => plcS ts a ≤ plcS ts b) ∧ σ = obx 3 ss.length (ss'.map Seg.enc).flatten ++ pσ3 ts
theorem look_p3 {ts : List Tsk} {i : Nat} {cs : List AV} {l : Nat} {x : Bx} (h : look (obx 3 i cs ++ pσ3 ts) l = some x) : (l = 3 ∧ 0 < i ∧ x = .cs cs) ∨ (l < 3 ∧ look (pσ3 ts) l = some x) := by
  cases i with
  | zero =>
    refine .inr ⟨?_, by simpa [obx] using h⟩
    simp only [obx, pσ3, if_true, look, List.nil_append] at h
    repeat' split at h
    all_goals first | omega | cases h
  | succ i =>
    rw [obx_pos] at h
    simp only [List.cons_append, List.nil_append, look] at h
    split at h
    · cases h
      exact .inl ⟨by omega, by omega, rfl⟩
    · refine .inr ⟨?_, h⟩
      simp only [pσ3, look] at h
      repeat' split at h
      all_goals first | omega | cases h
theorem look_p3' {ts : List Tsk} {i : Nat} {cs : List AV} {l : Nat} {x : Bx} (h : look (pσ3 ts) l = some x) : look (obx 3 i cs ++ pσ3 ts) l = some x := by
  have hl : l < 3 := by
    simp only [pσ3, look] at h
    repeat' split at h
    all_goals first | omega | cases h
  rw [look_obx (nb (by omega))]
  exact h
theorem sort_end {ts : List Tsk} {ss ss' : List Seg} {w w' : World} {M : Nat → Prop} {ρ : Nat → Option Nat} (hM : ∀ b, M b → b < w.heap.size)
    (hf : ∀ ρ', (∀ l, l < 4 → ρ' l = ρ l) → ∀ l x, look (obx 3 ss.length (ss.map Seg.enc).flatten ++ pσ3 ts) l = some x → BxOK ⟨w, M, ρ'⟩ l x)
    (hinj : ∀ l l' x x' b, look (obx 3 ss.length (ss.map Seg.enc).flatten ++ pσ3 ts) l = some x → look (obx 3 ss.length (ss.map Seg.enc).flatten ++ pσ3 ts) l' = some x' → ρ l = some b → ρ l' = some b → l = l')
    (hfr : Fr w (fun b => ρ 3 = some b ∧ 0 < ss.length) w') (hperm : ss'.Perm ss) (hsort : ss'.Pairwise (fun a b => plcS ts a ≤ plcS ts b))
    (hrow : 0 < ss.length → ∃ b vs T, ρ 3 = some b ∧ w'.heap[b]? = some (.cells vs T (0, 0)) ∧ (∀ v ∈ vs.toList, v.oneCell' = true) ∧ (ss'.map Seg.enc).flatten.length ≤ vs.size ∧ ∀ M', (∀ b, b < w.heap.size → ¬ M b → ¬ M' b) → ∀ ρ', DenL ⟨w', M', ρ'⟩ (ss'.map Seg.enc).flatten (vs.toList.take (ss'.map Seg.enc).flatten.length)) :
    FCR w M ρ 4 (obx 3 ss.length (ss.map Seg.enc).flatten ++ pσ3 ts) 4 (sortPost ts ss) (.returned (.tuple #[])) w' := by
  have hf0 := hf ρ fun _ _ => rfl
  have hSgM : ∀ b, Sg ρ (obx 3 ss.length (ss.map Seg.enc).flatten ++ pσ3 ts) b → M b := fun b ⟨l, x, hl, hb⟩ => BxOK.own (hf0 l x hl) hb
  have hto : ∀ {l : Nat} {x : Bx}, look (obx 3 ss.length (ss'.map Seg.enc).flatten ++ pσ3 ts) l = some x → ∃ x', look (obx 3 ss.length (ss.map Seg.enc).flatten ++ pσ3 ts) l = some x' := by
    intro l x h
    rcases look_p3 h with ⟨rfl, h0, rfl⟩ | ⟨h1, h2⟩
    · exact ⟨_, look_self h0 _ _⟩
    · exact ⟨_, look_p3' h2⟩
  have hSg : ∀ b, Sg ρ (obx 3 ss.length (ss'.map Seg.enc).flatten ++ pσ3 ts) b → Sg ρ (obx 3 ss.length (ss.map Seg.enc).flatten ++ pσ3 ts) b := fun b ⟨l, x, hl, hb⟩ => by
    obtain ⟨x', h⟩ := hto hl
    exact ⟨l, x', h, hb⟩
  have hfr4 : Fr w (Sg ρ (obx 3 ss.length (ss.map Seg.enc).flatten ++ pσ3 ts)) w' := hfr.mono fun b hb => ⟨3, _, look_self hb.2 _ _, hb.1⟩
  refine ⟨_, ρ, .tup [], obx 3 ss.length (ss'.map Seg.enc).flatten ++ pσ3 ts, rfl, ⟨rfl, ss', hperm, hsort, rfl⟩, fun _ _ => rfl, fun l x hl => ?_, fun l l' x x' b h1 h2 hb hb' => ?_, hfr4, fun l x hl b y => ?_, fun ρ'' hρ => ⟨by simp [Den, DenL], fun l x hl => ?_⟩⟩
  · obtain ⟨x', h⟩ := hto hl
    have : l < 4 := by rcases look_p3 hl with ⟨rfl, _⟩ | ⟨h, _⟩ <;> omega
    exact ⟨this, fun _ => by rw [h]; rfl, fun h4 => by omega⟩
  · obtain ⟨y, h3⟩ := hto h1
    obtain ⟨y', h4⟩ := hto h2
    exact hinj l l' y y' b h3 h4 hb hb'
  · rcases look_p3 hl with ⟨_, _, rfl⟩ | ⟨h, h2⟩
    · simp
    · simp only [pσ3, look] at h2
      repeat' split at h2
      all_goals first | (cases h2; simp) | cases h2
  · have hk : KW.le ⟨w, M, ρ''⟩ ⟨w', fun b => (M b ∧ ¬ Sg ρ (obx 3 ss.length (ss.map Seg.enc).flatten ++ pσ3 ts) b) ∨ Sg ρ (obx 3 ss.length (ss'.map Seg.enc).flatten ++ pσ3 ts) b, ρ''⟩ :=
      ⟨hfr.size, fun b hb hm => ⟨fun h => hm (h.elim (fun h => h.1) fun h => hSgM b (hSg b h)), hfr4.keep b hb fun h => hm (hSgM b h)⟩, hfr.rows, rfl⟩
    rcases look_p3 hl with ⟨rfl, h0, rfl⟩ | ⟨h1, h2⟩
    · obtain ⟨b, vs, T, hb, h3, h4, h5, h6⟩ := hrow h0
      refine .inr ⟨b, vs, T, (hρ 3 (by omega)).trans hb, .inr ⟨3, _, hl, hb⟩, h3, h4, h5, h6 _ ?_ _⟩
      exact fun b hb hm => (hk.keep b hb hm).1
    · refine BxOK.keep' hk (hf ρ'' hρ l x (look_p3' h2)) fun b hb => ?_
      have hb' : ρ l = some b := (hρ l (by omega)).symm.trans hb
      have hMb : M b := hSgM b ⟨l, x, look_p3' h2, hb'⟩
      refine ⟨.inr ⟨l, x, look_p3' h2, hb'⟩, hfr.keep b (hM b hMb) fun h3 => ?_⟩
      have := hinj l 3 _ _ b (look_p3' h2) (look_self h3.2 _ _) hb' h3.1
      omega
end Go.QL
