/- Arguments that read as data are described. -/
import Derived.Test.YtfhkfahgimibaaaW20
import Derived.Deep.Slices
import Derived.ChangeArms
import Derived.DataReads
namespace Go.QL
open Go.Proofs Go.Proofs.Try
section
variable {H : Type} {enc : TypeId × Value → H} {P : Program} {w : World} {base : Nat} {spare : Nat → Bool} {held : Bool}
/-- The world in which nothing may change. -/
def kw0 (w : World) : KW := ⟨w, fun _ => False, fun _ => none⟩
theorem ex_list {β : Type} {p : Nat → β → Prop} : ∀ (n : Nat), (∀ i, i < n → ∃ b, p i b) → ∃ bs : List β, bs.length = n ∧ ∀ i (h : i < bs.length), p i bs[i]
  | 0, _ => ⟨[], rfl, fun i h => absurd h (by simp)⟩
  | n + 1, h => by
    obtain ⟨bs, h1, h2⟩ := ex_list n fun i hi => h i (by omega)
    obtain ⟨b, hb⟩ := h n (by omega)
    refine ⟨bs ++ [b], by simp [h1], fun i hi => ?_⟩
    by_cases e : i < bs.length
    · rw [List.getElem_append_left e]
      exact h2 i e
    · simp only [List.length_append, List.length_cons, List.length_nil] at hi
      have : i = n := by omega
      subst this
      rw [List.getElem_append_right (by omega)]
      simpa [h1] using hb
theorem denCs_of {k : KW} {b : Nat} : ∀ {xs : List AV} {vs : List Value} {off : Nat}, DenL k xs vs → (∀ v ∈ vs, v.oneCell' = true) → (∀ i, i < vs.length → k.w.cell? ⟨b, off + i, none⟩ = vs[i]?) → DenCs k xs b off
  | [], _, _, _, _, _ => by simp [DenCs]
  | _ :: _, [], _, h, _, _ => by simp [DenL] at h
  | x :: xs, v :: vs, off, h, h1, h2 => by
    simp only [DenL] at h
    simp only [DenCs]
    refine ⟨⟨v, by simpa using h2 0 (by simp), h1 v (by simp), h.1⟩, denCs_of h.2 (fun u hu => h1 u (by simp [hu])) fun i hi => ?_⟩
    have := h2 (i + 1) (by simp; omega)
    simpa [show off + (i + 1) = off + 1 + i by omega] using this
theorem denEs_of {β : Type} {k : KW} {b n : Nat} {ec : β → List AV} (hl : ∀ x, (ec x).length = n) : ∀ {bs : List β} {off : Nat}, (∀ i (h : i < bs.length), DenCs k (ec bs[i]) b (off + i * n)) → DenEs k (bs.map ec) b off n
  | [], _, _ => by simp [DenEs]
  | x :: bs, off, h => by
    simp only [List.map_cons, DenEs]
    refine ⟨hl x, by have := h 0 (by simp); rwa [Nat.zero_mul, Nat.add_zero] at this, denEs_of hl fun i hi => ?_⟩
    have := h (i + 1) (by simp; omega)
    simp only [List.getElem_cons_succ] at this
    rwa [show off + (i + 1) * n = off + n + i * n by rw [Nat.add_mul]; omega] at this
/-- A slice that reads as data is described by the descriptions of its elements. -/
theorem den_slice {β : Type} {t e : TypeId} {n : Nat} {ec : β → List AV} (ht : P.underlying t = some (.slice e)) (hn : P.cellsOf e = n) (hn0 : 0 < n) (hl : ∀ x, (ec x).length = n)
    (hel : ∀ fuel cs x, DataW.trod enc P w base spare held fuel e cs = some x → ∃ b : β, DenL (kw0 w) (ec b) cs ∧ ∀ v ∈ cs, v.oneCell' = true) {fuel : Nat} {cs : List Value} {x : DataW H × List MemPlace}
    (h : DataW.trod enc P w base spare held fuel t cs = some x) : ∃ (bs : List β) (v : Value), cs = [v] ∧ Den (kw0 w) (.sl (bs.map ec)) v ∧ v.oneCell' = true ∧ bs.length ≤ maxLen := by
  rcases Go.Deep.open_slice ht h with ⟨rfl, rfl⟩ | ⟨a, len, cap, m, n', D, Pl, rfl, _, hlc, hcm, hm, rfl, hx⟩
  · exact ⟨[], _, rfl, by simp only [Den, kw0]; exact ⟨none, 0, rfl, by simp, by simp, .inl rfl⟩, rfl, by simp⟩
  · have hlm : len ≤ m := by
      rw [hm]
      split <;> omega
    rw [hn] at hx
    obtain ⟨bs, hb1, hb2⟩ := ex_list (p := fun i (b : β) => ∃ cs', w.cells? base (a.add (i * n)) n = some cs' ∧ DenL (kw0 w) (ec b) cs' ∧ ∀ v ∈ cs', v.oneCell' = true) len fun i hi => by
      obtain ⟨cs', h1, h2⟩ := hx i (by omega)
      obtain ⟨b, h3, h4⟩ := hel _ _ _ h2
      exact ⟨b, cs', h1, h3, h4⟩
    refine ⟨bs, _, rfl, ?_, rfl, by omega⟩
    simp only [Den]
    refine ⟨some a, cap, by rw [List.length_map, hb1], by rw [List.length_map]; omega, hcm, ?_⟩
    rcases Nat.eq_zero_or_pos len with h0 | h0
    · refine .inl ?_
      rw [List.eq_nil_of_length_eq_zero (hb1.trans h0)]
      rfl
    · obtain ⟨cs', h1, h2, h3⟩ := hb2 0 (by omega)
      obtain ⟨_, hl1, hc1⟩ := World.cells?_some h1
      have h00 := hc1 0 hn0
      rw [List.getElem?_eq_getElem (by omega)] at h00
      obtain ⟨blk, off, spot⟩ := a
      have hsp : spot = none := by
        unfold World.cell? at h00
        split at h00
        · cases spot with
          | none => rfl
          | some s => simp [Addr.add] at h00
        · cases h00
      subst hsp
      have hblt : blk < w.heap.size := cell_lt (o := off + 0) (by simpa [Addr.add] using h00)
      refine .inr ⟨blk, off, n, rfl, hblt, by simp [kw0], denEs_of hl fun i hi => ?_⟩
      obtain ⟨cs', h1, h2, h3⟩ := hb2 i hi
      obtain ⟨_, hl1, hc1⟩ := World.cells?_some h1
      refine denCs_of h2 h3 fun j hj => ?_
      have := hc1 j (by omega)
      rw [Addr.add_lit, Addr.add_lit] at this
      exact this
end
section
variable {H : Type} {enc : TypeId × Value → H} {w : World} {base : Nat} {spare : Nat → Bool} {held : Bool}
theorem rd_int {fuel : Nat} {t : TypeId} {k : IntKind} (ht : prog.underlying t = some (.int k)) {cs : List Value} {x : Option (DataW H × List MemPlace)} {y : DataW H × List MemPlace} (h : DataW.trod enc prog w base spare held fuel t cs = x) (hx : x = some y) : ∃ v : Int, cs = [.int k v] := by
  subst hx
  obtain ⟨n, h1, _⟩ := DataW.trod_int ht h
  exact ⟨n, h1⟩
theorem rd_bool {fuel : Nat} {t : TypeId} (ht : prog.underlying t = some .bool) {cs : List Value} {x : Option (DataW H × List MemPlace)} {y : DataW H × List MemPlace} (h : DataW.trod enc prog w base spare held fuel t cs = x) (hx : x = some y) : ∃ v : Bool, cs = [.bool v] := by
  subst hx
  obtain ⟨n, h1, _⟩ := DataW.trod_bool ht h
  exact ⟨n, h1⟩
theorem co3 : prog.cellsOf 3 = 1 := by kernel_rfl
theorem co39 : prog.cellsOf 39 = 4 := by kernel_rfl
theorem co32 : prog.cellsOf 32 = 5 := by kernel_rfl
theorem co29 : prog.cellsOf 29 = 1 := by kernel_rfl
theorem co30 : prog.cellsOf 30 = 1 := by kernel_rfl
theorem co50 : prog.cellsOf 50 = 11 := by kernel_rfl
theorem co48 : prog.cellsOf 48 = 8 := by kernel_rfl
theorem co4 : prog.cellsOf 4 = 1 := by kernel_rfl
theorem rd_field {fs : Array Field} {n : Nat} {cs : List Value} {xs : List (DataW H × List MemPlace)} (hf : ∀ (i : Nat) (f : Field), fs[i]? = some f → DataW.trod enc prog w base spare held n f.type ((cs.drop f.offset).take (prog.cellsOf f.type)) = xs[i]?) (i T o : Nat) {s : Nat} (hs : prog.cellsOf T = s)
    (h : (fs[i]?).map (fun f => (f.type, f.offset)) = some (T, o)) : DataW.trod enc prog w base spare held n T ((cs.drop o).take s) = xs[i]? := by
  obtain ⟨f, h1, h2⟩ := Option.map_eq_some_iff.1 h
  have := hf i f h1
  simp only [Prod.mk.injEq] at h2
  rw [h2.1, h2.2, hs] at this
  exact this
set_option maxRecDepth 100000 in
theorem rd_tsk {fuel : Nat} {cs : List Value} {x : DataW H × List MemPlace} (h : DataW.trod enc prog w base spare held fuel 39 cs = some x) : ∃ b : Tsk, DenL (kw0 w) b.enc cs ∧ ∀ v ∈ cs, v.oneCell' = true := by
  obtain ⟨xs, n, rfl, rfl, hl, hxl, hf⟩ := DataW.trod_struct underlying39 h
  rw [co39] at hl
  match cs, hl with
  | [c0, c1, c2, c3], _ =>
    match xs, hxl with
    | [x0, x1, x2, x3], _ =>
      obtain ⟨v0, e0⟩ := rd_int underlying3 (rd_field hf 0 3 0 co3 rfl) rfl
      obtain ⟨v1, e1⟩ := rd_int underlying3 (rd_field hf 1 3 1 co3 rfl) rfl
      obtain ⟨v2, e2⟩ := rd_int underlying3 (rd_field hf 2 3 2 co3 rfl) rfl
      obtain ⟨v3, e3⟩ := rd_int underlying3 (rd_field hf 3 3 3 co3 rfl) rfl
      simp only [List.drop_succ_cons, List.drop_zero, List.take_succ_cons, List.take_zero, List.cons.injEq, and_true] at e0 e1 e2 e3
      subst e0 e1 e2 e3
      exact ⟨⟨v0, v1, v2, v3⟩, by simp [Tsk.enc, DenL, Den], by simp [Value.oneCell']⟩
set_option maxRecDepth 100000 in
theorem rd_rec {fuel : Nat} {cs : List Value} {x : DataW H × List MemPlace} (h : DataW.trod enc prog w base spare held fuel 50 cs = some x) : ∃ b : Rec, DenL (kw0 w) b.enc cs ∧ ∀ v ∈ cs, v.oneCell' = true := by
  obtain ⟨xs, n, rfl, rfl, hl, hxl, hf⟩ := DataW.trod_struct underlying50 h
  rw [co50] at hl
  match cs, hl with
  | [c0, c1, c2, c3, c4, c5, c6, c7, c8, c9, c10], _ =>
    match xs, hxl with
    | [x0, x1, x2, x3], _ =>
      obtain ⟨v0, e0⟩ := rd_int underlying3 (rd_field hf 0 3 0 co3 rfl) rfl
      obtain ⟨v1, e1⟩ := rd_int underlying3 (rd_field hf 1 3 1 co3 rfl) rfl
      obtain ⟨v2, e2⟩ := rd_int underlying3 (rd_field hf 2 3 2 co3 rfl) rfl
      have hp : DataW.trod enc prog w base spare held n 48 [c3, c4, c5, c6, c7, c8, c9, c10] = some x3 := rd_field hf 3 48 3 co48 rfl
      obtain ⟨ys, n', rfl, rfl, _, hyl, hg⟩ := DataW.trod_struct underlying48 hp
      match ys, hyl with
      | [y0, y1, y2, y3, y4, y5, y6, y7], _ =>
        obtain ⟨v3, e3⟩ := rd_int underlying3 (rd_field hg 0 3 0 co3 rfl) rfl
        obtain ⟨v4, e4⟩ := rd_int underlying3 (rd_field hg 1 3 1 co3 rfl) rfl
        obtain ⟨v5, e5⟩ := rd_int underlying3 (rd_field hg 2 3 2 co3 rfl) rfl
        obtain ⟨v6, e6⟩ := rd_int underlying3 (rd_field hg 3 3 3 co3 rfl) rfl
        obtain ⟨v7, e7⟩ := rd_int underlying3 (rd_field hg 4 3 4 co3 rfl) rfl
        obtain ⟨v8, e8⟩ := rd_int underlying3 (rd_field hg 5 3 5 co3 rfl) rfl
        obtain ⟨v9, e9⟩ := rd_bool underlying4 (rd_field hg 6 4 6 co4 rfl) rfl
        obtain ⟨v10, e10⟩ := rd_bool underlying4 (rd_field hg 7 4 7 co4 rfl) rfl
        simp only [List.drop_succ_cons, List.drop_zero, List.take_succ_cons, List.take_zero, List.cons.injEq, and_true] at e0 e1 e2 e3 e4 e5 e6 e7 e8 e9 e10
        subst e0 e1 e2 e3 e4 e5 e6 e7 e8 e9 e10
        exact ⟨⟨v0, v1, v2, v3, v4, v5, v6, v7, v8, v9, v10⟩, by simp [Rec.enc, DenL, Den], by simp [Value.oneCell']⟩
set_option maxRecDepth 100000 in
theorem rd_seg {fuel : Nat} {cs : List Value} {x : DataW H × List MemPlace} (h : DataW.trod enc prog w base spare held fuel 32 cs = some x) : ∃ b : Seg, DenL (kw0 w) b.enc cs ∧ ∀ v ∈ cs, v.oneCell' = true := by
  obtain ⟨xs, n, rfl, rfl, hl, hxl, hf⟩ := DataW.trod_struct underlying32 h
  rw [co32] at hl
  match cs, hl with
  | [c0, c1, c2, c3, c4], _ =>
    match xs, hxl with
    | [x0, x1, x2, x3, x4], _ =>
      obtain ⟨v0, e0⟩ := rd_int underlying3 (rd_field hf 0 3 0 co3 rfl) rfl
      obtain ⟨v1, e1⟩ := rd_int underlying3 (rd_field hf 1 3 1 co3 rfl) rfl
      obtain ⟨v2, e2⟩ := rd_int underlying29 (rd_field hf 2 29 2 co29 rfl) rfl
      obtain ⟨v3, e3⟩ := rd_int underlying29 (rd_field hf 3 29 3 co29 rfl) rfl
      have hr : DataW.trod enc prog w base spare held n 30 [c4] = some x4 := rd_field hf 4 30 4 co30 rfl
      obtain ⟨rs, v4, e4, hd, ho, _⟩ := den_slice (ec := Rec.enc) underlying30 co50 (by omega) Rec.len_enc (fun _ _ _ => rd_rec) hr
      simp only [List.drop_succ_cons, List.drop_zero, List.take_succ_cons, List.take_zero, List.cons.injEq, and_true] at e0 e1 e2 e3 e4
      subst e0 e1 e2 e3 e4
      refine ⟨⟨v0, v1, v2, v3, rs⟩, ?_, ?_⟩
      · simp only [Seg.enc, DenL, and_true]
        exact ⟨by simp [Den], by simp [Den], by simp [Den], by simp [Den], hd⟩
      · simp only [List.mem_cons, List.not_mem_nil, or_false]
        rintro v (rfl | rfl | rfl | rfl | rfl) <;> first | rfl | exact ho
/-- An argument that is a row of tasks. -/
theorem arg_tsks {v : Value} {d : DataW H} {ps : List MemPlace} (h : DataW.Trod enc prog w base spare held 22 v d ps) (hv : v.cells.toList.length = 1 → v.cells.toList = [v]) : ∃ ts : List Tsk, Den (kw0 w) (.sl (ts.map Tsk.enc)) v ∧ ts.length ≤ maxLen := by
  obtain ⟨fuel, h⟩ := h
  obtain ⟨ts, u, e, hd, _, hl⟩ := den_slice (ec := Tsk.enc) underlying22 co39 (by omega) Tsk.len_enc (fun _ _ _ => rd_tsk) h
  rw [hv (by rw [e]; rfl)] at e
  cases e
  exact ⟨ts, hd, hl⟩
theorem arg_segs {v : Value} {d : DataW H} {ps : List MemPlace} (h : DataW.Trod enc prog w base spare held 23 v d ps) (hv : v.cells.toList.length = 1 → v.cells.toList = [v]) : ∃ ss : List Seg, Den (kw0 w) (.sl (ss.map Seg.enc)) v ∧ ss.length ≤ maxLen := by
  obtain ⟨fuel, h⟩ := h
  obtain ⟨ss, u, e, hd, _, hl⟩ := den_slice (ec := Seg.enc) underlying23 co32 (by omega) Seg.len_enc (fun _ _ _ => rd_seg) h
  rw [hv (by rw [e]; rfl)] at e
  cases e
  exact ⟨ss, hd, hl⟩
end
end Go.QL
