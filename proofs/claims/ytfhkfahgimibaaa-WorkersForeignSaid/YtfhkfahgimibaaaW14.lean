/- Contract: slices.SortFunc of segments by the places of their tasks. -/
import Derived.Test.YtfhkfahgimibaaaW13
import Derived.Shelf.SlSortCmp.NoneTotal
namespace Go.QL
open Go.Proofs Go.Proofs.Try Go.Sort
theorem perm_all {α : Type} [Inhabited α] {d d' : Array α} {n : Nat} (hn : n = d.size) (h : PermIn 0 n d d') : d'.toList.Perm d.toList := by
  subst hn
  have h2 := h.2.2
  have e1 : d'.extract 0 d.size = d' := by
    rw [← h.1]
    simp
  have e2 : d.extract 0 d.size = d := by simp
  rwa [e1, e2] at h2
theorem den_one {k : KW} {x : AV} {v : Array Value} (h : DenL k [x] (v.toList.take [x].length)) : ∃ y, v[0]? = some y ∧ Den k x y := by
  obtain ⟨l⟩ := v
  cases l with
  | nil => simp [DenL] at h
  | cons y l =>
    simp [DenL] at h
    exact ⟨y, by simp, h⟩
theorem den_fn {k : KW} {f : Fn} {x : AV} {y : Value} (h : Den k (.fn f [] [x]) y) : ∃ c, y = .func f #[] #[c] ∧ Den k x c := by
  simp only [Den] at h
  obtain ⟨fs, cs, rfl, hfs, hcs⟩ := h
  have hfs' : fs = #[] := by
    have := hfs.length
    simpa using this.symm
  subst hfs'
  obtain ⟨c, hc⟩ : ∃ c, cs = #[c] := by
    have := hcs.length
    simp at this
    exact Array.size_eq_one_iff.1 this.symm
  subst hc
  simp only [DenL, and_true] at hcs
  exact ⟨c, rfl, hcs⟩
theorem p3_2 (ts : List Tsk) : look (pσ3 ts) 2 = some (.cs [.fn (.func 26) [] [.ptr 1 0]]) := rfl
theorem p3_1 (ts : List Tsk) : look (pσ3 ts) 1 = some (.cs [.mp 0]) := rfl
theorem p3_0 (ts : List Tsk) : look (pσ3 ts) 0 = some (.mp (plcF 0 ts)) := rfl
theorem sub_list {β : Type} {p : β → Prop} : ∀ (l : List β), (∀ x ∈ l, p x) → ∃ l' : List { x // p x }, l'.map (·.1) = l
  | [], _ => ⟨[], rfl⟩
  | x :: l, h => by
    obtain ⟨l', h'⟩ := sub_list l fun y hy => h y (by simp [hy])
    exact ⟨⟨x, h x (by simp)⟩ :: l', by simp [h']⟩
theorem rows_pos {ss : List Seg} (h : 0 < ss.length) : (ss.map Seg.enc).flatten ≠ [] := by
  intro e
  have := congrArg List.length e
  rw [flat_len segs_len] at this
  simp at this
  omega
theorem swo_key {α : Type} (f : α → Int) : SWO (ltOf fun x y : α => f x - f y) where
  irrefl x := by simp [ltOf]
  trans x y z h1 h2 := by simp [ltOf] at *; omega
  ntrans x y z h1 h2 := by simp [ltOf] at *; omega
theorem c43 (ts : List Tsk) (hts : ts.length < 2 ^ 62) (ss : List Seg) (hlen : ss.length ≤ 32) :
    FC prog 43 4 [olst 5 3 ss.length, .fn (.func 29) [] [.ptr 2 0]] (obx 3 ss.length (ss.map Seg.enc).flatten ++ pσ3 ts) 4 (sortPost ts ss) := by
  intro w M ρ vs hM hf hlab hinj
  obtain ⟨hargs, hbx⟩ := hf ρ fun _ _ => rfl
  obtain ⟨v1, v2, rfl⟩ : ∃ v1 v2, vs = [v1, v2] := by
    have := hargs.length
    match vs, this with
    | [a, b], _ => exact ⟨a, b, rfl⟩
  simp only [DenL, and_true] at hargs
  obtain ⟨h1, h2⟩ := hargs
  obtain ⟨c, rfl, hc⟩ := den_fn h2
  simp only [Den] at hc
  obtain ⟨b2, hρ2, rfl⟩ := hc
  have hbox : ∀ l x, look (pσ3 ts) l = some x → BxOK ⟨w, M, ρ⟩ l x := fun l x h => hbx l x (look_p3' h)
  rcases Nat.eq_zero_or_pos ss.length with h0 | h0
  · have hss : ss = [] := List.eq_nil_of_length_eq_zero h0
    subst hss
    simp only [List.length_nil, olst, if_true, Den] at h1
    subst h1
    have hsort := AnyF.slices_SortFunc_none (P := prog) (ρ := Try.sortLay_ren) Try.sortLay none 0 (.func (.func 29) #[] #[.pointer (some ⟨b2, 0, none⟩)]) w
    refine Calls.mono hsort ?_
    rintro e w' ⟨rfl, rfl⟩
    exact sort_end (ss := []) (ss' := []) hM (fun ρ' h => (hf ρ' h).2) hinj (Fr.refl _ _) (List.Perm.refl _) List.Pairwise.nil (fun h => absurd h (by simp))
  · obtain ⟨k, hk⟩ : ∃ k, ss.length = k + 1 := ⟨ss.length - 1, by omega⟩
    rw [hk, olst_pos] at h1
    simp only [Den] at h1
    obtain ⟨a, cap, rfl, hc1, hc2, hc3, hc4⟩ := h1
    have hb3 := hbx 3 _ (look_self h0 _ _)
    simp only [BxOK] at hb3
    rcases hb3 with ⟨h, _⟩ | ⟨blk, rv, T, hρ3, hMb, hheap, hone, hcl, hden⟩
    · have := congrArg List.length h
      rw [flat_len segs_len] at this
      simp at this
      omega
    rcases hc4 with h | ⟨b', vs', T', hb', ha, hh', _⟩
    · omega
    rw [hρ3] at hb'
    cases hb'
    subst ha
    have hB2 := hbox 2 _ (p3_2 ts)
    have hB1 := hbox 1 _ (p3_1 ts)
    have hB0 := hbox 0 _ (p3_0 ts)
    simp only [BxOK] at hB2 hB1 hB0
    rcases hB2 with ⟨h, _⟩ | ⟨b2', u2, T2, hρ2', hM2, hh2, _, _, hd2⟩
    · cases h
    rw [hρ2] at hρ2'
    cases hρ2'
    rcases hB1 with ⟨h, _⟩ | ⟨b1, u1, T1, hρ1, hM1, hh1, _, _, hd1⟩
    · cases h
    obtain ⟨m0, ents, clock, hρ0, hM0, hh0, _, _, hkeys, hvals⟩ := hB0
    obtain ⟨y2, hy2, hd2⟩ := den_one hd2
    obtain ⟨c, rfl, hc⟩ := den_fn hd2
    simp only [Den] at hc
    obtain ⟨b1', hb1', rfl⟩ := hc
    rw [hρ1] at hb1'
    cases hb1'
    obtain ⟨y1, hy1, hd1⟩ := den_one hd1
    simp only [Den] at hd1
    obtain ⟨m0', hm0', rfl⟩ := hd1
    rw [hρ0] at hm0'
    cases hm0'
    rw [plcF_keys] at hkeys
    rw [plcF_vals] at hvals
    have hvals := denL_vls hvals
    have nb3 : ∀ {l b : Nat} {x : Bx}, l < 3 → look (pσ3 ts) l = some x → ρ l = some b → b ≠ blk := fun hl hlk hb e => by
      subst e
      have := hinj _ 3 _ _ _ (look_p3' hlk) (look_self h0 _ _) hb hρ3
      omega
    have n2 := nb3 (by omega) (p3_2 ts) hρ2
    have n1 := nb3 (by omega) (p3_1 ts) hρ1
    have n0 := nb3 (by omega) (p3_0 ts) hρ0
    obtain ⟨ps, hps1, hps2, hps3⟩ := rows_of ss _ hden
    have hflen : (ss.map Seg.enc).flatten.length = ss.length * 5 := by
      rw [flat_len segs_len]
      simp
    have hps4 : ∀ p ∈ ps, p.2.length = 5 ∧ (∀ v ∈ p.2, v.oneCell' = true) ∧ ∀ ρ', DenL ⟨w, M, ρ'⟩ p.1.enc p.2 := fun p hp => by
      refine ⟨(hps3 p hp).1, fun v hv => ?_, (hps3 p hp).2⟩
      have : v ∈ (ps.map (·.2)).flatten := List.mem_flatten.2 ⟨p.2, List.mem_map.2 ⟨p, hp, rfl⟩, hv⟩
      rw [hps2] at this
      exact hone v (List.mem_of_mem_take this)
    have hds : ∃ d : Array (RowE w M), d.toList.map (·.1) = ps := by
      obtain ⟨l, hl⟩ := sub_list ps hps4
      exact ⟨l.toArray, hl⟩
    obtain ⟨d, hd⟩ := hds
    have hdl : d.size = ss.length := by
      have e1 := congrArg List.length hd
      have e2 := congrArg List.length hps1
      simp at e1 e2
      omega
    have hfk : flatK (fun x : RowE w M => x.1.2) 5 d = (rv.toList.take (ss.map Seg.enc).flatten.length).toArray := by
      rw [flatK_eq _ _ (fun x => x.2.1), ← hps2, ← hd, List.map_map]
      rfl
    have hlt : blk < w.heap.size := hM blk hMb
    have hH : HoldsK (fun x : RowE w M => x.1.2) 5 w blk 0 d := by
      intro j hj
      rw [hfk] at hj ⊢
      simp only [List.size_toArray, List.length_take] at hj
      have hj' : j < rv.size := by
        simp at hj
        omega
      refine ⟨?_, ?_⟩
      · have e1 : rv[j]? = some rv[j] := by simp [hj']
        have e2 : ((rv.toList.take (ss.map Seg.enc).flatten.length).toArray)[j]! = rv[j] := by
          have hj2 : j < (ss.map Seg.enc).flatten.length := by omega
          rw [getElem!_pos _ j (by simp; simp at hj; omega)]
          simp
        simp only [World.cell?, hheap, Nat.zero_add, id, e2]
        exact e1
      · simp [World.frozen?, hheap]
    have hcmp := cmp_ok (size := d.size) hts hM hheap hMb n1 n2 n0 hh0 hkeys hvals hh1 hh2 hy1 hy2
    have hsort := AnyQ.slices_SortFunc (P := prog) (ρ := Try.sortLay_ren) Try.sortLay 5 Try.isAgg32 Try.sizeOf32 (fun x : RowE w M => x.1.2) (fun x => x.2.1) (fun x => x.2.2.1) (fun x y => plcS ts x.1.1 - plcS ts y.1.1) (swo_key fun x : RowE w M => plcS ts x.1.1) 29 #[.pointer (some ⟨b2, 0, none⟩)] blk 0 cap d w r29.ent hcmp hH hlt (by omega)
    rw [hdl, hk] at hsort
    refine Calls.mono hsort ?_
    rintro e w' ⟨rfl, d', n, os, hperm, hsorted, rfl⟩
    obtain ⟨hfr, hrow⟩ := sw_facts (fun x : RowE w M => x.1.2) 5 w blk n d' os hheap
    have hpd := perm_all (by omega) hperm
    have hss : ss = d.toList.map (·.1.1) := by
      rw [← hps1, ← hd, List.map_map]
      rfl
    have hpl : (d'.toList.map (fun x : RowE w M => x.1.1)).Perm ss := by
      rw [hss]
      exact hpd.map _
    have hdl' : d'.size = ss.length := by
      have := hperm.1
      omega
    have hfk' : flatK (fun x : RowE w M => x.1.2) 5 d' = (((d'.toList.map (·.1)).map (·.2)).flatten).toArray := by
      rw [flatK_eq _ _ (fun x => x.2.1), List.map_map]
      rfl
    have hfs : (flatK (fun x : RowE w M => x.1.2) 5 d').size = (ss.map Seg.enc).flatten.length := by
      rw [size_flatK, hflen, hdl']
    have hfl' : ((d'.toList.map (fun x : RowE w M => x.1.1)).map Seg.enc).flatten.length = (ss.map Seg.enc).flatten.length := by
      rw [flat_len segs_len, hflen]
      simp [hdl']
    refine sort_end (ss' := d'.toList.map (fun x : RowE w M => x.1.1)) hM (fun ρ' h => (hf ρ' h).2) hinj (hfr.mono fun b hb => ⟨hb ▸ hρ3, h0⟩) hpl ?_ (fun _ => ⟨blk, _, T, hρ3, hrow, ?_, ?_, ?_⟩)
    · rw [List.pairwise_map, List.pairwise_iff_getElem]
      intro i j hi hj hij
      have hi' : i < d'.size := by simpa using hi
      have hj' : j < d'.size := by simpa using hj
      have := hsorted i j (Nat.zero_le _) hij (by omega)
      rw [getElem!_pos d' j hj', getElem!_pos d' i hi'] at this
      simp only [ltOf, decide_eq_false_iff_not] at this
      simp only [Array.getElem_toList]
      omega
    · refine put_mem (fun v hv => ?_) hone
      rw [hfk'] at hv
      simp only [List.mem_flatten, List.mem_map] at hv
      obtain ⟨l, ⟨p, ⟨x, hx, rfl⟩, rfl⟩, hv⟩ := hv
      exact x.2.2.1 v hv
    · rw [putC_size, hfl']
      exact hcl
    · intro M' hM' ρ'
      rw [hfl', ← hfs, put_take (by rw [hfs]; exact hcl), hfk']
      have hk' : KW.le ⟨w, M, ρ'⟩ ⟨sortWorldK (fun x : RowE w M => x.1.2) 5 w blk 0 n d' os, M', ρ'⟩ := ⟨hfr.size, fun b hb hm => ⟨hM' b hb hm, hfr.keep b hb fun e => hm (e ▸ hMb)⟩, hfr.rows, rfl⟩
      have := den_rows (k := ⟨sortWorldK (fun x : RowE w M => x.1.2) 5 w blk 0 n d' os, M', ρ'⟩) (d'.toList.map (·.1)) (fun p hp => by
        obtain ⟨x, _, rfl⟩ := List.mem_map.1 hp
        exact DenL.mono hk' _ _ (x.2.2.2 _))
      have e3 : (d'.toList.map (fun x : RowE w M => x.1)).map (fun p => p.1) = d'.toList.map (fun x : RowE w M => x.1.1) := by
        rw [List.map_map]
        rfl
      rw [e3] at this
      exact this
end Go.QL
