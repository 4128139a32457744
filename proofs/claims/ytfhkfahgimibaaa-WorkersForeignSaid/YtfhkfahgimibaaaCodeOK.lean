/- The evaluator is right about regions. -/
import Derived.Test.YtfhkfahgimibaaaDet
namespace Go.QL
open RowKit

theorem mkgd_den {k : KW} {c : Bool} {r : AV} {v : Value} (h1 : c = true → Den k r v) (h0 : c = false → v = undef) : Den k (mkgd c r) v := by
  unfold mkgd
  split
  · rename_i d y
    simp only [Den] at h1 ⊢
    constructor
    · intro h
      simp at h
      exact (h1 h.1).1 h.2
    · intro h
      cases c with
      | false => exact h0 rfl
      | true => exact (h1 rfl).2 (by simpa using h)
  · simp only [Den]
    exact ⟨h1, h0⟩

/-- An operation's meaning, in a round or not. -/
def owp (C : Cx) (o : Oper) (a : Act) (w : World) (K : Act → World → Prop) (Q : Exit → Act → World → Prop) : Prop := o.uponIn C.F 0 C.P a K Q ((execOp a.eval o).run C.P w)

theorem upon_enter_of {C : Cx} {o : Oper} {a : Act} {w : World} {K : Act → World → Prop} {Q : Exit → Act → World → Prop} {f : FuncId} {args : Array Value} (h : Calls C.P f args w fun
      | .returned v, w'' => K (a.put o.dst v) w''
      | .panicked chain, w'' => Q (.panic chain) a w''
      | .outgrown, _ => LetsOut Q) : o.uponIn C.F 0 C.P a K Q (.ok (.enter f args) w) :=
  ⟨fun hd => by simp [Cx.F, Fence.wide] at hd, callsIn_wide.2 h⟩

theorem strip_all {c : Bool} {K : AV → Prop} (hc : c = true) {α : Type} {k : α → KW} {y : Value} : ∀ {x : AV}, (∀ i, Den (k i) x y) → strip c x K → ∃ z, (∀ i, Den (k i) z y) ∧ K z
  | .gd d u, hd, h => by
    simp only [strip] at h
    simp only [Den] at hd
    exact strip_all hc (fun i => (hd i).1 (h.1 hc)) h.2
  | .vl _, hd, h => ⟨_, hd, by simpa [strip] using h⟩
  | .any, hd, h => ⟨_, hd, by simpa [strip] using h⟩
  | .ce, hd, h => ⟨_, hd, by simpa [strip] using h⟩
  | .sl _, hd, h => ⟨_, hd, by simpa [strip] using h⟩
  | .dp _, hd, h => ⟨_, hd, by simpa [strip] using h⟩
  | .ptr _ _, hd, h => ⟨_, hd, by simpa [strip] using h⟩
  | .agg _, hd, h => ⟨_, hd, by simpa [strip] using h⟩
  | .tup _, hd, h => ⟨_, hd, by simpa [strip] using h⟩
  | .fn _ _ _, hd, h => ⟨_, hd, by simpa [strip] using h⟩
  | .osl _ _ _ _ _, hd, h => ⟨_, hd, by simpa [strip] using h⟩
  | .mp _, hd, h => ⟨_, hd, by simpa [strip] using h⟩
  | .imp _, hd, h => ⟨_, hd, by simpa [strip] using h⟩

section
variable {C : Cx} {s : St} {a : Act} {w : World} {M : Nat → Prop} {ρ : Nat → Option Nat} {o : Oper} {m : MO}

/-- A quiet operation, and the state behind it. -/
theorem quiet_step {c : Bool} {K : AV → List Bx → Prop} (h : SatAt C s a w M ρ) (ht : trOp C.P o.op = some m) (hd : ∀ e, o.dst = some e → e < C.N) (hc : c = true)
    (hq : qv c m s.ev (look s.σ) s.n K) :
    ∃ r ν, K r ν ∧ ∀ (r' : AV) (Kw : Act → World → Prop) (Q : Exit → Act → World → Prop), (∀ k v, Den k r v → Den k r' v) → (∀ a' w', Sat C ((s.new ν).put o.dst r') a' w' → Kw a' w') → owp C o a w Kw Q := by
  obtain ⟨r, ν, hK, hdet⟩ := qv_det hq
  refine ⟨r, ν, hK, fun r2 Kw Q hr2 hKw => ?_⟩
  have all : ∀ ρ' : Nat → Option Nat, (∀ l, l < s.n → ρ' l = ρ l) → ∃ v w', (execOp a.eval o).run C.P w = .ok (.value v) w' ∧ QRes ⟨w, M, ρ'⟩ s.n r ν v w' := by
    intro ρ' hρ
    have hf := h.facts ρ' hρ
    obtain ⟨r', ν', ⟨rfl, rfl⟩, v, w', h1, h2⟩ := q_all (k := ⟨w, M, ρ'⟩) ht (ev_den hf) (fun l x _ _ hx => hf.boxes l x hx) hc (hdet (fun r' ν' => r' = r ∧ ν' = ν) ⟨rfl, rfl⟩)
    exact ⟨v, w', h1, h2⟩
  obtain ⟨v, w', hrun, hres⟩ := all ρ fun _ _ => rfl
  have all' : ∀ ρ' : Nat → Option Nat, (∀ l, l < s.n → ρ' l = ρ l) → QRes ⟨w, M, ρ'⟩ s.n r ν v w' := by
    intro ρ' hρ
    obtain ⟨v2, w2, h1, h2⟩ := all ρ' hρ
    rw [hrun] at h1
    cases h1
    exact h2
  unfold owp
  rw [hrun, Oper.uponIn_value]
  apply hKw
  rcases hres with ⟨rfl, hw, hden⟩ | ⟨cs, vs, T, rfl, hw, hone, hdl, hnew⟩
  · simp only at hw
    subst hw
    refine ⟨M, ρ, SatAt.put (s := s.new []) h hd ?_⟩
    intro ρ' hρ
    rcases all' ρ' hρ with ⟨_, _, h2⟩ | ⟨_, _, _, h2, _⟩
    · exact hr2 _ _ h2
    · cases h2
  · simp only at hw
    subst hw
    have ha := SatAt.alloc (T := T) h hone (cs := cs) (by
      intro ρ' hρ
      rcases all' ρ' hρ with ⟨h2, _⟩ | ⟨cs', vs', T', h2, h3, h4, h5, _⟩
      · cases h2
      · simp only [List.cons.injEq, Bx.cs.injEq, and_true] at h2
        subst h2
        have : vs' = vs := by
          have h6 : (w.alloc (.cells vs T (0, 0))).heap[w.heap.size]? = (w.alloc (.cells vs' T' (0, 0))).heap[w.heap.size]? := by rw [h3]
          have e : ∀ o : Obj, (w.alloc o).heap[w.heap.size]? = some o := fun o => by
            show (w.heap.push o)[w.heap.size]? = _
            simp
          rw [e, e] at h6
          simp only [Option.some.injEq, Obj.cells.injEq] at h6
          exact h6.1.symm
        subst this
        exact h5)
    refine ⟨_, _, SatAt.put ha hd ?_⟩
    intro ρ' hρ
    exact hr2 _ _ (hnew _ rfl ((hρ s.n (by simp [St.new])).trans (by simp)))

theorem take_splice {α : Type} (V ys : List α) (off n : Nat) (h1 : off + ys.length ≤ n) (h2 : n ≤ V.length) :
    (V.take off ++ ys ++ V.drop (off + ys.length)).take n = (V.take n).take off ++ ys ++ (V.take n).drop (off + ys.length) := by
  apply List.ext_getElem?
  intro i
  have e1 : min off V.length = off := by omega
  have e2 : min off (min n V.length) = off := by omega
  simp only [List.getElem?_take, List.getElem?_append, List.length_append, List.length_take, List.getElem?_drop, e1, e2]
  by_cases hi : i < n
  · rw [if_pos hi]
    by_cases h3 : i < off + ys.length
    · rw [if_pos h3, if_pos h3]
      by_cases h4 : i < off
      · simp [h4, show i < n from hi]
      · simp [h4]
    · rw [if_neg h3, if_neg h3, if_pos (by omega)]
  · rw [if_neg hi, if_neg (by omega), if_neg (by omega)]

theorem heap_setRow_ne (w : World) (b b' : Nat) (cs : Array Value) (h : b' ≠ b) : (w.setRow b cs).heap[b']? = w.heap[b']? := by
  simp only [World.setRow, Array.getElem?_modify]
  rw [if_neg (fun e => h e.symm)]

theorem look_upd {α : Type} (l : Nat) (y : α) : ∀ (σ : List (Nat × α)) (i : Nat), look (upd σ l y) i = if i = l then (look σ l).map (fun _ => y) else look σ i
  | [], i => by simp [upd, look]
  | (j, x) :: r, i => by
    by_cases h : l = j
    · subst h
      simp only [upd, look, if_true]
      by_cases hi : i = l
      · simp [hi]
      · simp [hi]
    · simp only [upd, if_neg h, look, look_upd l y r i]
      by_cases hi : i = j
      · subst hi
        simp [show ¬ i = l from fun e => h e.symm]
      · simp [hi, h]

theorem ex_set (h : SatAt C s a w M ρ) {l : Nat} {x x' : Bx} (hl : look s.σ l = some x) (hny : ∀ b y, x' ≠ .yc b y) {S : Nat → Prop} {w' : World} (hf : Fr w S w') (hS : ∀ b, S b → ρ l = some b) : Ex C (Sg ρ (s.set l x').σ) (Ys (s.set l x').σ) w' M a.defers := by
  refine h.ex.step hf (fun b hb => ⟨l, x, hl, hS b hb⟩) h.fr.size (fun b hb => .inl hb) (fun b hb => .inl hb) ?_ ?_
  · rintro b ⟨i, y, hy, hb⟩
    simp only [St.set, look_upd] at hy
    split at hy
    · rename_i e
      subst e
      exact ⟨h.mut hl hb, .inl ⟨i, x, hl, hb⟩⟩
    · exact ⟨h.mut hy hb, .inl ⟨i, y, hy, hb⟩⟩
  · intro i b y hy
    simp only [Ys, St.set, look_upd] at hy ⊢
    split at hy
    · rw [hl] at hy
      exact absurd (Option.some.inj hy) (hny _ _)
    · exact hy

/-- One own box is another. -/
theorem SatAt.setobj (h : SatAt C s a w M ρ) {l : Nat} {x x' : Bx} {b : Nat} {w' : World} (hl : look s.σ l = some x) (hb : ρ l = some b) (hny : ∀ b y, x' ≠ .yc b y) (hf : Fr w (fun i => i = b) w')
    (hx' : ∀ ρ', (∀ l, l < s.n → ρ' l = ρ l) → BxOK ⟨w', M, ρ'⟩ l x') : SatAt C (s.set l x') a w' M ρ := by
  have hM := h.mut hl hb
  have hne : ∀ b', b' < w.heap.size → b' ≠ b → w'.heap[b']? = w.heap[b']? := fun b' hlt hb' => hf.keep b' hlt hb'
  have le : ∀ ρ', KW.le ⟨w, M, ρ'⟩ ⟨w', M, ρ'⟩ := fun ρ' =>
    ⟨hf.size, fun b' hlt hm => ⟨hm, hne b' hlt fun e => hm (e ▸ hM)⟩, hf.rows, rfl⟩
  have hlt := h.lab l _ hl
  refine ⟨fun ρ' hρ => ⟨fun i => Den.mono (le ρ') _ _ ((h.facts ρ' hρ).tmps i), fun l' y hy => ?_⟩, ?_, ?_, ?_, ?_, h.foreign, ?_, h.size, ex_set h hl hny hf (fun i e => e ▸ hb), h.n0, h.ag0⟩
  · simp only [St.set, look_upd] at hy
    split at hy
    · rename_i e
      subst e
      simp only [hl, Option.map_some, Option.some.injEq] at hy
      subst hy
      exact hx' ρ' hρ
    · rename_i e
      have hbx := (h.facts ρ' hρ).boxes l' y hy
      refine BxOK.mono (le ρ') (fun b' hb' => ⟨id, hne b' (h.mlt b' (BxOK.lt hbx hb')) ?_⟩) hbx
      intro eb
      subst eb
      have hb'' : ρ' l' = some b' := hb'
      rw [hρ l' (h.lab l' y hy)] at hb''
      exact e (h.inj l' l y _ b' hy hl hb'' hb)
  · intro l' x hx
    simp only [St.set, look_upd] at hx ⊢
    split at hx
    · rename_i e
      subst e
      exact hlt
    · exact h.lab l' x hx
  · intro l1 l2 x x' b' hx hx' hb1 hb2
    have some_of : ∀ {l' : Nat} {x y : Bx}, look (upd s.σ l y) l' = some x → ∃ y, look s.σ l' = some y := by
      intro l' x y hx
      rw [look_upd] at hx
      split at hx
      · rename_i e
        subst e
        exact ⟨_, hl⟩
      · exact ⟨_, hx⟩
    obtain ⟨y, hy⟩ := some_of hx
    obtain ⟨y', hy'⟩ := some_of hx'
    exact h.inj l1 l2 y y' b' hy hy' hb1 hb2
  · refine h.fr.trans hf fun b' hb' e => ?_
    subst e
    rcases h.own l _ b' hl hb with h1 | h1
    · exact h1
    · omega
  · intro b' hb'
    exact Nat.lt_of_lt_of_le (h.mlt b' hb') hf.size
  · intro l' x b' hx hb'
    simp only [St.set, look_upd] at hx
    split at hx
    · rename_i e
      subst e
      exact h.own l' _ b' hl hb'
    · exact h.own l' x b' hx hb'

/-- One own box has new cells. -/
theorem SatAt.setbox (h : SatAt C s a w M ρ) {l : Nat} {cs cs' : List AV} {vs vs' : Array Value} {T : TypeId} {b : Nat} (hl : look s.σ l = some (.cs cs)) (hb : ρ l = some b)
    (hh : w.heap[b]? = some (.cells vs T (0, 0))) (hsz : vs'.size = vs.size) (hone : ∀ v ∈ vs'.toList, v.oneCell' = true) (hlen : cs'.length ≤ vs'.size)
    (hd : ∀ ρ', (∀ l, l < s.n → ρ' l = ρ l) → DenL ⟨w, M, ρ'⟩ cs' (vs'.toList.take cs'.length)) :
    SatAt C (s.set l (.cs cs')) a (w.setRow b vs') M ρ := by
  have hM := h.mut hl hb
  have hnew := setRow_heap w b vs vs' T (0, 0) hh
  have hne : ∀ b', b' ≠ b → (w.setRow b vs').heap[b']? = w.heap[b']? := fun b' hb' => heap_setRow_ne w b b' _ hb'
  have hsize : (w.setRow b vs').heap.size = w.heap.size := by simp [World.setRow]
  have hf : Fr w (fun i => i = b) (w.setRow b vs') := by
    refine ⟨rfl, rfl, rfl, by rw [hsize]; exact Nat.le_refl _, fun b' _ hb' => hne b' hb', fun b' c T' hc => ?_, Nat.le_refl _⟩
    by_cases e : b' = b
    · subst e
      rw [hh] at hc
      cases hc
      exact ⟨_, hnew, hsz⟩
    · exact ⟨c, by rw [hne b' e]; exact hc, rfl⟩
  refine h.setobj hl hb (fun _ _ => by simp) hf fun ρ' hρ => .inr ⟨b, _, T, (hρ l (h.lab l _ hl)).trans hb, hM, hnew, hone, hlen, DenL.mono (k := ⟨w, M, ρ'⟩) ?_ _ _ (hd ρ' hρ)⟩
  exact ⟨hf.size, fun b' hlt hm => ⟨hm, hne b' fun e => hm (e ▸ hM)⟩, hf.rows, rfl⟩

/-- One own box is written. -/
theorem SatAt.store (h : SatAt C s a w M ρ) {l off : Nat} {cs xs : List AV} {vs ys : Array Value} {T : TypeId} {b : Nat} (hl : look s.σ l = some (.cs cs)) (hb : ρ l = some b)
    (hh : w.heap[b]? = some (.cells vs T (0, 0))) (hn : off + xs.length ≤ cs.length) (hcs : cs.length ≤ vs.size) (hone : ∀ v ∈ vs.toList, v.oneCell' = true)
    (hone' : ∀ v ∈ ys.toList, v.oneCell' = true) (hys : xs.length = ys.size)
    (hd : ∀ ρ', (∀ l, l < s.n → ρ' l = ρ l) → DenL ⟨w, M, ρ'⟩ cs (vs.toList.take cs.length) ∧ DenL ⟨w, M, ρ'⟩ xs ys.toList) :
    SatAt C (s.set l (.cs (cs.take off ++ xs ++ cs.drop (off + xs.length)))) a (w.setRow b (vs.toList.take off ++ ys.toList ++ vs.toList.drop (off + ys.size)).toArray) M ρ := by
  have hlen : (cs.take off ++ xs ++ cs.drop (off + xs.length)).length = cs.length := by
    simp
    omega
  refine h.setbox hl hb hh (by simp; omega) ?_ (by simp; omega) fun ρ' hρ => ?_
  · intro v hv
    simp only [List.mem_append] at hv
    rcases hv with (hv | hv) | hv
    · exact hone v (List.mem_of_mem_take hv)
    · exact hone' v hv
    · exact hone v (List.mem_of_mem_drop hv)
  · obtain ⟨h1, h2⟩ := hd ρ' hρ
    rw [hlen]
    have := take_splice vs.toList ys.toList off cs.length (by simp; omega) (by simpa using hcs)
    simp only [Array.length_toList] at this
    rw [this, hys]
    exact DenL.append (DenL.append (DenL.take off h1) h2) (DenL.drop _ h1)

/-- Any temporaries beside. -/
abbrev Agree (n : Nat) (ρ : Nat → Option Nat) : Type := { ρ' : Nat → Option Nat // ∀ l, l < n → ρ' l = ρ l }

theorem DenCs.toL {k : KW} {b : Nat} : ∀ {cs : List AV} {off : Nat} {vs : List Value}, DenCs k cs b off → k.w.rangeAt b off vs → vs.length = cs.length → DenL k cs vs
  | [], _, [], _, _, _ => by simp [DenL]
  | [], _, _ :: _, _, _, h => by simp at h
  | _ :: _, _, [], _, _, h => by simp at h
  | x :: cs, off, v :: vs, h, hr, hl => by
    simp only [DenCs] at h
    obtain ⟨⟨y, h1, _, h2⟩, h3⟩ := h
    have h4 := hr 0 v rfl
    rw [Nat.add_zero, h1] at h4
    cases h4
    simp only [DenL]
    refine ⟨h2, DenCs.toL h3 (fun j u hj => ?_) (by simpa using hl)⟩
    have := hr (j + 1) u (by simpa using hj)
    rwa [show off + (j + 1) = off + 1 + j by omega] at this

theorem DenCs.app {k : KW} {b : Nat} : ∀ {cs cs' : List AV} {off : Nat}, DenCs k cs b off → DenCs k cs' b (off + cs.length) → DenCs k (cs ++ cs') b off
  | [], _, _, _, h => by simpa using h
  | x :: cs, cs', off, h, h' => by
    simp only [DenCs, List.cons_append, List.length_cons] at h h' ⊢
    exact ⟨h.1, DenCs.app h.2 (by rwa [show off + 1 + cs.length = off + (cs.length + 1) by omega])⟩

theorem DenEs.flat {k : KW} {b sz : Nat} : ∀ {es : List (List AV)} {off : Nat}, DenEs k es b off sz → DenCs k es.flatten b off ∧ es.flatten.length = es.length * sz
  | [], _, _ => by simp [DenCs]
  | e :: es, off, h => by
    simp only [DenEs] at h
    obtain ⟨h1, h2, h3⟩ := h
    obtain ⟨h4, h5⟩ := DenEs.flat h3
    refine ⟨?_, ?_⟩
    · rw [List.flatten_cons]
      exact DenCs.app h2 (by rw [h1]; exact h4)
    · rw [List.flatten_cons, List.length_append, h5, h1, List.length_cons, Nat.add_mul]
      omega

theorem range_of_row {w : World} {b : Nat} {vs : Array Value} {T : TypeId} (hh : w.heap[b]? = some (.cells vs T (0, 0))) (off n : Nat) : w.rangeAt b off ((vs.toList.drop off).take n) := by
  intro j v hj
  rw [List.getElem?_take] at hj
  split at hj
  · rw [List.getElem?_drop] at hj
    simp only [World.cell?, hh]
    simpa using hj
  · cases hj

theorem run_app_room {P : Program} {w : World} (t ty e : TypeId) (i : TypeInfo) (ht : P.underlying t = some (.slice e)) (hi : P.info? e = some i) {b n cap m c : Nat} {vs : Array Value} {T : TypeId} (hh : w.heap[b]? = some (.cells vs T (0, 0)))
    (ad : Addr) (news : List Value) (hl : news.length = m * i.size) (hnews : ∀ j u, news[j]? = some u → w.cell? (ad.add j) = some u) (h1 : ∀ u ∈ news, u.oneCell' = true) (hroom : n + m ≤ cap) (hfit : n * i.size + news.length ≤ vs.size) :
    (Builtin.append_ #[t, t] ty #[.slice (some ⟨b, 0, none⟩) n cap, .slice (some ad) m c]).run P w = .ok (.slice (some ⟨b, 0, none⟩) (n + m) cap) (w.setRow b (vs.toList.take (n * i.size) ++ news ++ vs.toList.drop (n * i.size + news.length)).toArray) := by
  have hf := run_firstCells_some (P := P) w i.size m ad m c news hl hnews
  have hst := run_storeCells_at P b (n * i.size) T news 0 vs w hh (by simpa using hfit) h1
  simp only [Nat.add_zero] at hst
  simp [Builtin.append_, run_underlying ht, sizeOf, typeInfo, hi, Builtin.lenOf, hroom, hf, Addr.add_lit, hst]

theorem run_app_zero {P : Program} {w : World} (t ty e : TypeId) (i : TypeInfo) (ht : P.underlying t = some (.slice e)) (hi : P.info? e = some i) {n cap c : Nat} {xo yo : Option Addr} (hn : n ≤ cap) :
    (Builtin.append_ #[t, t] ty #[.slice xo n cap, .slice yo 0 c]).run P w = .ok (.slice xo n cap) w := by
  cases yo <;> cases xo <;> simp [Builtin.append_, run_underlying ht, sizeOf, typeInfo, hi, Builtin.lenOf, Builtin.firstCells, hn, storeCells, loadCells, loadCellsFrom]

/-- What is put behind a row, read in the memory. -/
theorem news_ok (h : SatAt C s a w M ρ) {Y : AV} {y : Value} {sz : Nat} {K : Nat → List AV → Prop} (hY : ∀ i : Agree s.n ρ, Den ⟨w, M, i.1⟩ Y y) (hv : newsV s sz Y K) :
    ∃ m news yo c vs, K m news ∧ y = .slice yo m c ∧ vs.length = m * sz ∧ (∀ v ∈ vs, v.oneCell' = true) ∧ (∀ i : Agree s.n ρ, DenL ⟨w, M, i.1⟩ news vs) ∧ (0 < m → ∃ ad, yo = some ad ∧ ∀ j u, vs[j]? = some u → w.cell? (ad.add j) = some u) := by
  have h0 := hY ⟨ρ, fun _ _ => rfl⟩
  have slc : ∀ (es : List (List AV)), (∀ i : Agree s.n ρ, Den ⟨w, M, i.1⟩ (.sl es) y) → (∀ e ∈ es, e.length = sz) → K es.length es.flatten →
      ∃ m news yo c vs, K m news ∧ y = .slice yo m c ∧ vs.length = m * sz ∧ (∀ v ∈ vs, v.oneCell' = true) ∧ (∀ i : Agree s.n ρ, DenL ⟨w, M, i.1⟩ news vs) ∧ (0 < m → ∃ ad, yo = some ad ∧ ∀ j u, vs[j]? = some u → w.cell? (ad.add j) = some u) := by
    intro es hY hes hK
    have h0 := hY ⟨ρ, fun _ _ => rfl⟩
    simp only [Den] at h0
    obtain ⟨yo, c, rfl, h1, h2, h3⟩ := h0
    rcases h3 with rfl | ⟨b, off, sz', rfl, hb, hM, hd⟩
    · exact ⟨0, [], yo, c, [], hK, rfl, by simp, by simp, fun _ => by simp [DenL], fun h => absurd h (by omega)⟩
    · by_cases hne : es = []
      · subst hne
        exact ⟨0, [], _, c, [], hK, rfl, by simp, by simp, fun _ => by simp [DenL], fun h => absurd h (by omega)⟩
      · have hsz : sz' = sz := by
          obtain ⟨e, r, rfl⟩ := List.exists_cons_of_ne_nil hne
          simp only [DenEs] at hd
          rw [← hd.1, hes e (by simp)]
        subst hsz
        obtain ⟨hf, hl⟩ := DenEs.flat hd
        obtain ⟨vs, hv1, hv2, hv3⟩ := DenCs.vals hf
        have hlen := hv1.length
        refine ⟨es.length, es.flatten, _, c, vs, hK, rfl, by omega, hv2, fun i => ?_, fun _ => ⟨_, rfl, fun j u hj => by simpa [Addr.add_lit] using hv3 j u hj⟩⟩
        have hi := hY i
        simp only [Den] at hi
        obtain ⟨yo', c', hy', _, _, h3⟩ := hi
        rcases h3 with h3 | ⟨b', off', sz'', h4, _, _, hd'⟩
        · exact absurd h3 hne
        · cases hy'
          cases h4
          exact DenCs.toL (DenEs.flat hd').1 hv3 (by omega)
  have other : ∀ es, asSl Y = some es → (∀ e ∈ es, e.length = sz) → K es.length es.flatten →
      ∃ m news yo c vs, K m news ∧ y = .slice yo m c ∧ vs.length = m * sz ∧ (∀ v ∈ vs, v.oneCell' = true) ∧ (∀ i : Agree s.n ρ, DenL ⟨w, M, i.1⟩ news vs) ∧ (0 < m → ∃ ad, yo = some ad ∧ ∀ j u, vs[j]? = some u → w.cell? (ad.add j) = some u) := by
    intro es ha h1 h2
    unfold asSl at ha
    split at ha
    · cases ha
      exact slc _ hY h1 h2
    · cases ha
      simp only [Den] at h0
      subst h0
      exact ⟨0, [], none, 0, [], h2, rfl, by simp, by simp, fun _ => by simp [DenL], fun h => absurd h (by omega)⟩
    · cases ha
  unfold newsV at hv
  split at hv
  · rename_i sz' l off len cap
    split at hv
    · rename_i cs hl
      obtain ⟨⟨rfl, hle⟩, hK⟩ := hv
      simp only [Den] at h0
      obtain ⟨yo, c, rfl, _, h2, _, h3⟩ := h0
      by_cases hc : c = 0
      · have hl0 : len = 0 := by omega
        subst hl0
        rw [Nat.zero_mul, List.take_zero] at hK
        exact ⟨0, [], yo, c, [], hK, rfl, by simp, by simp, fun _ => by simp [DenL], fun h => absurd h (by omega)⟩
      · rcases h3 with h3 | ⟨b, vs, T, hb, rfl, hh, hfit⟩
        · exact absurd h3 hc
        · have box : ∀ i : Agree s.n ρ, cs.length ≤ vs.size ∧ (∀ v ∈ vs.toList, v.oneCell' = true) ∧ DenL ⟨w, M, i.1⟩ cs (vs.toList.take cs.length) := by
            intro i
            have hbx := (h.facts i.1 i.2).boxes l _ hl
            simp only [BxOK] at hbx
            have e : i.1 l = some b := (i.2 l (h.lab l _ hl)).trans hb
            rcases hbx with ⟨_, h0⟩ | ⟨b', vs', T', hb', _, hh', hone, hlen, hd⟩
            · rw [e] at h0
              cases h0
            · rw [e] at hb'
              cases hb'
              have hh2 : w.heap[b]? = some (.cells vs T (0, 0)) := hh
              rw [hh2] at hh'
              cases hh'
              exact ⟨hlen, hone, hd⟩
          obtain ⟨hlen, hone, _⟩ := box ⟨ρ, fun _ _ => rfl⟩
          have eq : ((vs.toList.take cs.length).drop off).take (len * sz') = (vs.toList.drop off).take (len * sz') := by
            rw [List.drop_take, List.take_take]
            congr 1
            omega
          refine ⟨len, _, _, c, (vs.toList.drop off).take (len * sz'), hK, rfl, by simp; omega, fun v hv => hone v (List.mem_of_mem_drop (List.mem_of_mem_take hv)), fun i => ?_, fun _ => ⟨_, rfl, fun j u hj => ?_⟩⟩
          · rw [← eq]
            exact DenL.take _ (DenL.drop off (box i).2.2)
          · rw [Addr.add_lit]
            exact range_of_row (show w.heap[b]? = some (.cells vs T (0, 0)) from hh) off (len * sz') j u hj
    · exact hv.elim
  · split at hv
    · rename_i es hes
      exact other es hes hv.1 hv.2
    · exact hv.elim

theorem app_step {sz bytes m : Nat} {X : AV} {xv : Value} {news : List AV} {K : St → AV → Prop} {t ty e : TypeId} {i : TypeInfo} {z : Value} {yo : Option Addr} {c : Nat} {vs : List Value} (h : SatAt C s a w M ρ)
    (ht : C.P.underlying t = some (.slice e)) (hi : C.P.info? e = some i) (hz : i.zero = some z) (hzs : z.cells.size = i.size) (hz1 : ∀ v ∈ z.cells.toList, v.oneCell' = true) (hsz : i.size = sz) (hby : i.bytes = bytes) (h0 : 0 < sz)
    (hX : ∀ i : Agree s.n ρ, Den ⟨w, M, i.1⟩ X xv) (hl : vs.length = m * sz) (hone : ∀ v ∈ vs, v.oneCell' = true) (hd : ∀ i : Agree s.n ρ, DenL ⟨w, M, i.1⟩ news vs)
    (hc : 0 < m → ∃ ad, yo = some ad ∧ ∀ j u, vs[j]? = some u → w.cell? (ad.add j) = some u) (hv : appV s sz bytes X m news K) :
    ∃ s' r v w' M' ρ', K s' r ∧ (Builtin.append_ #[t, t] ty #[xv, .slice yo m c]).run C.P w = .ok v w' ∧ SatAt C s' a w' M' ρ' ∧ ∀ i : Agree s'.n ρ', Den ⟨w', M', i.1⟩ r v := by
  have hX0 := hX ⟨ρ, fun _ _ => rfl⟩
  have hnl := (hd ⟨ρ, fun _ _ => rfl⟩).length
  have hzc : ∀ n, ∀ v ∈ (Builtin.zeroCells z.cells n).toList, v.oneCell' = true := by
    intro n v hv
    unfold Builtin.zeroCells at hv
    simp only [Array.toList_map, List.mem_map, Array.toList_range, List.mem_range] at hv
    obtain ⟨j, hj, rfl⟩ := hv
    have hlt : j % z.cells.size < z.cells.size := Nat.mod_lt _ (by omega)
    rw [getElem!_pos z.cells _ hlt]
    exact hz1 _ (by simp)
  /- a new row -/
  have row : ∀ {n cap : Nat} {olds : List Value} {os : List AV}, olds.length = n * sz → n + m ≤ cap → cap ≤ maxLen → (∀ v ∈ olds, v.oneCell' = true) → (∀ i : Agree s.n ρ, DenL ⟨w, M, i.1⟩ os olds) →
      ∃ M' ρ', SatAt C (s.new [.cs (os ++ news)]) a (w.drew.alloc (.cells (olds.toArray ++ vs.toArray ++ Builtin.zeroCells z.cells (cap - (n + m))) e)) M' ρ' ∧
        ρ' s.n = some w.heap.size ∧ (∀ l, l < s.n → ρ' l = ρ l) ∧
        ∀ i : Agree (s.n + 1) ρ', Den ⟨w.drew.alloc (.cells (olds.toArray ++ vs.toArray ++ Builtin.zeroCells z.cells (cap - (n + m))) e), M', i.1⟩ (.osl sz s.n 0 (n + m) (n + m)) (.slice (some ⟨w.heap.size, 0, none⟩) (n + m) cap) := by
    intro n cap olds os hol hn hcm ho hdo
    have ho1 := (hdo ⟨ρ, fun _ _ => rfl⟩).length
    have hnew : (w.drew.alloc (.cells (olds.toArray ++ vs.toArray ++ Builtin.zeroCells z.cells (cap - (n + m))) e)).heap[w.heap.size]? = some (.cells (olds.toArray ++ vs.toArray ++ Builtin.zeroCells z.cells (cap - (n + m))) e (0, 0)) := heap_alloc_new w.drew _
    have hsz2 : (olds.toArray ++ vs.toArray ++ Builtin.zeroCells z.cells (cap - (n + m))).size = cap * sz := by
      rw [Array.size_append, Array.size_append, size_zeroCells, hzs, hsz]
      simp only [List.size_toArray, hol, hl, ← Nat.add_mul]
      congr 1
      omega
    have hle2 : (n + m) * sz ≤ cap * sz := Nat.mul_le_mul_right _ hn
    have hle : (os ++ news).length = (n + m) * sz := by
      rw [List.length_append, Nat.add_mul]
      omega
    refine ⟨_, _, SatAt.fresh (T := e) (g := w.heap.size) (cs := os ++ news) h ((Fr.drew w _ _ (Nat.le_succ _)).trans (Fr.alloc w.drew _ (fun _ => False)) fun _ _ h => h) (Nat.le_refl _) hnew ?_ (by omega) (fun ρ' hρ => ?_), by simp, fun l hl => by simp; omega, fun i => ?_⟩
    · intro v hv
      simp only [Array.toList_append, List.mem_append] at hv
      rcases hv with (hv | hv) | hv
      · exact ho v hv
      · exact hone v hv
      · exact hzc _ v hv
    · have : (olds.toArray ++ vs.toArray ++ Builtin.zeroCells z.cells (cap - (n + m))).toList.take (os ++ news).length = olds ++ vs := by
        rw [Array.toList_append, Array.toList_append, List.toList_toArray, List.toList_toArray]
        rw [List.take_append_of_le_length (by simp only [List.length_append]; omega)]
        exact List.take_of_length_le (by simp only [List.length_append]; omega)
      rw [this]
      exact DenL.append (hdo ⟨ρ', hρ⟩) (hd ⟨ρ', hρ⟩)
    · simp only [Den]
      refine ⟨_, cap, rfl, hn, hn, hcm, .inr ⟨w.heap.size, _, e, ?_, rfl, hnew, by omega⟩⟩
      exact (i.2 s.n (by omega)).trans (by simp)
  subst hsz
  subst hby
  unfold appV at hv
  split at hv
  · obtain ⟨⟨b1, b2⟩, hK⟩ := hv
    simp only [Den] at hX0
    subst hX0
    by_cases hm : m = 0
    · subst hm
      have hn0 : news = [] := List.eq_nil_of_length_eq_zero (by omega)
      subst hn0
      refine ⟨_, _, _, w, M, _, hK, run_app_zero t ty e i ht hi (Nat.le_refl _), SatAt.freshNil h, fun i => ?_⟩
      simp only [Den]
      exact ⟨none, 0, rfl, Nat.le_refl _, Nat.le_refl _, Nat.zero_le _, .inl rfl⟩
    · obtain ⟨ad, rfl, hcc⟩ := hc (by omega)
      have hge := grownCap_ge w m 0 e
      have hcm := grownCap_le_maxLen w m 0 e b1
      obtain ⟨M', ρ', h1, _, _, h2⟩ := row (n := 0) (cap := grownCap w m 0 e) (olds := []) (os := []) (by simp) (by omega) hcm (by simp) (fun _ => by simp [DenL])
      have hr := run_append_nil (P := C.P) w t ty e i z ht hi hz ad m c vs hl hcc (by omega) (by simp only [maxLen] at b1; omega) (by omega)
      simp only [Nat.zero_add, List.nil_append, Array.empty_append] at h1 h2
      exact ⟨_, _, _, _, M', ρ', hK, hr, h1, h2⟩
  · rename_i sz' l off len cap
    split at hv
    · rename_i cs hlk
      obtain ⟨⟨rfl, rfl, hle, b1, b2⟩, hK⟩ := hv
      have hlt := h.lab l _ hlk
      simp only [Den] at hX0
      obtain ⟨xo, cp, rfl, _, h2, h3, h4⟩ := hX0
      by_cases hm : m = 0
      · subst hm
        have hn0 : news = [] := List.eq_nil_of_length_eq_zero (by omega)
        subst hn0
        have hs1 : SatAt C (s.move l (.cs (cs.take (len * i.size) ++ []))) a w M (fun j => if j = s.n then ρ l else ρ j) := by
          have hs2 : SatAt C (s.set l (.cs (cs.take (len * i.size)))) a w M ρ := by
            refine ⟨fun ρ' hρ => ⟨(h.facts ρ' hρ).tmps, fun l' x hx => ?_⟩, fun l' x hx => ?_, fun l1 l2 x x' b hx hx' => ?_, h.fr, h.mlt, h.foreign, fun l' x b hx => ?_, h.size, ex_set h hlk (fun _ _ => by simp) (Fr.refl _ fun _ => False) (fun _ hb => hb.elim), h.n0, h.ag0⟩
            · simp only [St.set, look_upd] at hx
              split at hx
              · rename_i e
                subst e
                simp only [hlk, Option.map_some, Option.some.injEq] at hx
                subst hx
                have := (h.facts ρ' hρ).boxes l' _ hlk
                simp only [BxOK] at this ⊢
                rcases this with ⟨h5, h6⟩ | ⟨b, vs', T, h5, h6, h7, h8, h9, h10⟩
                · exact .inl ⟨by simp [h5], h6⟩
                · refine .inr ⟨b, vs', T, h5, h6, h7, h8, by simp; omega, ?_⟩
                  have := DenL.take (len * i.size) h10
                  rw [List.take_take] at this
                  simpa using this
              · exact (h.facts ρ' hρ).boxes l' x hx
            · simp only [St.set, look_upd] at hx ⊢
              split at hx
              · rename_i e
                subst e
                exact hlt
              · exact h.lab l' x hx
            · simp only [St.set, look_upd] at hx hx'
              have g1 : ∃ y, look s.σ l1 = some y := by
                split at hx
                · rename_i e
                  subst e
                  exact ⟨_, hlk⟩
                · exact ⟨_, hx⟩
              have g2 : ∃ y, look s.σ l2 = some y := by
                split at hx'
                · rename_i e
                  subst e
                  exact ⟨_, hlk⟩
                · exact ⟨_, hx'⟩
              obtain ⟨y1, g1⟩ := g1
              obtain ⟨y2, g2⟩ := g2
              exact h.inj _ _ _ _ b g1 g2
            · simp only [St.set, look_upd] at hx
              split at hx
              · rename_i e
                subst e
                exact h.own l' _ b hlk
              · exact h.own l' x b hx
          have hlk2 : look (s.set l (.cs (cs.take (len * i.size)))).σ l = some (.cs (cs.take (len * i.size))) := by
            simp [St.set, look_upd, hlk]
          have := SatAt.relabel hs2 hlk2 (fun _ _ => by simp)
          have er : ∀ x, ∀ σ : List (Nat × Bx), eras (upd σ l x) l = eras σ l := by
            intro x σ
            induction σ with
            | nil => rfl
            | cons p r ih =>
              obtain ⟨j, y⟩ := p
              by_cases e : l = j
              · subst e
                simp only [upd, if_true, eras]
              · simp only [upd, if_neg e, eras, ih]
          rw [List.append_nil]
          unfold St.move at this ⊢
          simp only [St.set, er] at this
          exact this
        refine ⟨_, _, _, w, M, _, hK, run_app_zero t ty e i ht hi h2, hs1, fun i2 => ?_⟩
        simp only [Den]
        refine ⟨xo, cp, rfl, by omega, by omega, h3, ?_⟩
        rcases h4 with h4 | ⟨b, vs', T, h5, h6, h7, h8⟩
        · exact .inl h4
        · refine .inr ⟨b, vs', T, ?_, h6, h7, h8⟩
          exact (i2.2 s.n (by simp [St.move])).trans (by simpa using h5)
      · obtain ⟨ad, rfl, hcc⟩ := hc (by omega)
        have drop : ∀ {w' M' ρ'} {os : List AV}, SatAt C (s.new [.cs (os ++ news)]) a w' M' ρ' → SatAt C (s.move l (.cs (os ++ news))) a w' M' ρ' := by
          intro w' M' ρ' os hs
          refine SatAt.drop hs (σ' := (s.n, .cs (os ++ news)) :: eras s.σ l) fun l' x hx => ?_
          simp only [look, look_eras, St.new] at hx ⊢
          split at hx
          · rename_i e
            rw [if_pos e]
            exact hx
          · rename_i e
            rw [if_neg e]
            split at hx
            · cases hx
            · exact hx
        by_cases hcp : cp = 0
        · have hl0 : len = 0 := by omega
          subst hl0
          subst hcp
          simp only [Nat.zero_add, Nat.zero_mul, List.take_zero, List.nil_append] at hK b1 b2
          have hge := grownCap_ge w m 0 e
          have hcm := grownCap_le_maxLen w m 0 e b1
          obtain ⟨M', ρ', h1, _, _, h2⟩ := row (n := 0) (cap := grownCap w m 0 e) (olds := []) (os := []) (by simp) (by omega) hcm (by simp) (fun _ => by simp [DenL])
          have h1 := drop h1
          simp only [Nat.zero_add, List.nil_append, Array.empty_append] at h1 h2
          cases xo with
          | none =>
            have hr := run_append_nil (P := C.P) w t ty e i z ht hi hz ad m c vs hl hcc (by omega) (by simp only [maxLen] at b1; omega) (by omega)
            exact ⟨_, _, _, _, M', ρ', hK, hr, h1, h2⟩
          | some bx =>
            have hr := run_append_grow (P := C.P) w t ty e i z ht hi hz bx 0 0 [] (by simp) (by simp) ad m c vs hl hcc (by omega) (by simp only [maxLen] at b1; omega) (growslice_fits (by omega) (by simpa using b2))
            simp only [Nat.zero_add, Array.empty_append] at hr
            exact ⟨_, _, _, _, M', ρ', hK, hr, h1, h2⟩
        · rcases h4 with h4 | ⟨b, bs, T, hb, rfl, hh, hfit⟩
          · exact absurd h4 hcp
          · have hh : w.heap[b]? = some (.cells bs T (0, 0)) := hh
            have hb : ρ l = some b := hb
            have box : ∀ i2 : Agree s.n ρ, cs.length ≤ bs.size ∧ (∀ v ∈ bs.toList, v.oneCell' = true) ∧ DenL ⟨w, M, i2.1⟩ cs (bs.toList.take cs.length) := by
              intro i2
              have hbx := (h.facts i2.1 i2.2).boxes l _ hlk
              simp only [BxOK] at hbx
              have e : i2.1 l = some b := (i2.2 l hlt).trans hb
              rcases hbx with ⟨_, h0⟩ | ⟨b', vs', T', hb', _, hh', hone, hlen, hd⟩
              · rw [e] at h0
                cases h0
              · rw [e] at hb'
                cases hb'
                rw [hh] at hh'
                cases hh'
                exact ⟨hlen, hone, hd⟩
            obtain ⟨hlen, hbone, _⟩ := box ⟨ρ, fun _ _ => rfl⟩
            have olds : ∀ i2 : Agree s.n ρ, DenL ⟨w, M, i2.1⟩ (cs.take (len * i.size)) (bs.toList.take (len * i.size)) := by
              intro i2
              have := DenL.take (len * i.size) (box i2).2.2
              rw [List.take_take] at this
              rwa [show min (len * i.size) cs.length = len * i.size by omega] at this
            have hol : (bs.toList.take (len * i.size)).length = len * i.size := by
              simp
              omega
            by_cases hroom : len + m ≤ cp
            · have hmul : (len + m) * i.size ≤ cp * i.size := Nat.mul_le_mul_right _ hroom
              rw [Nat.add_mul] at hmul
              have hr := run_app_room (P := C.P) t ty e i ht hi hh ad vs hl hcc hone hroom (c := c) (by omega)
              have hs1 : SatAt C (s.set l (.cs (cs.take (len * i.size) ++ news))) a (w.setRow b (bs.toList.take (len * i.size) ++ vs ++ bs.toList.drop (len * i.size + vs.length)).toArray) M ρ := by
                refine h.setbox hlk hb hh (by simp; omega) ?_ (by simp; omega) fun ρ' hρ => ?_
                · intro v hv
                  simp only [List.mem_append] at hv
                  rcases hv with (hv | hv) | hv
                  · exact hbone v (List.mem_of_mem_take hv)
                  · exact hone v hv
                  · exact hbone v (List.mem_of_mem_drop hv)
                · have hll : (cs.take (len * i.size) ++ news).length = len * i.size + vs.length := by
                    simp
                    omega
                  have e : (bs.toList.take (len * i.size) ++ vs ++ bs.toList.drop (len * i.size + vs.length)).take (len * i.size + vs.length) = bs.toList.take (len * i.size) ++ vs := by
                    rw [List.take_append_of_le_length (by rw [List.length_append]; omega)]
                    exact List.take_of_length_le (by rw [List.length_append]; omega)
                  rw [hll, List.toList_toArray, e]
                  exact DenL.append (olds ⟨ρ', hρ⟩) (hd ⟨ρ', hρ⟩)
              have hlk2 : look (s.set l (.cs (cs.take (len * i.size) ++ news))).σ l = some (.cs (cs.take (len * i.size) ++ news)) := by
                simp [St.set, look_upd, hlk]
              have hs2 := SatAt.relabel hs1 hlk2 (fun _ _ => by simp)
              have er : ∀ x, ∀ σ : List (Nat × Bx), eras (upd σ l x) l = eras σ l := by
                intro x σ
                induction σ with
                | nil => rfl
                | cons p r ih =>
                  obtain ⟨j, y⟩ := p
                  by_cases e : l = j
                  · subst e
                    simp only [upd, if_true, eras]
                  · simp only [upd, if_neg e, eras, ih]
              have hs3 : SatAt C (s.move l (.cs (cs.take (len * i.size) ++ news))) a (w.setRow b (bs.toList.take (len * i.size) ++ vs ++ bs.toList.drop (len * i.size + vs.length)).toArray) M (fun j => if j = s.n then ρ l else ρ j) := by
                unfold St.move at hs2 ⊢
                simp only [St.set, er] at hs2
                exact hs2
              have hnew := setRow_heap w b bs (bs.toList.take (len * i.size) ++ vs ++ bs.toList.drop (len * i.size + vs.length)).toArray T (0, 0) hh
              refine ⟨_, _, _, _, M, _, hK, hr, hs3, fun i2 => ?_⟩
              simp only [Den]
              refine ⟨_, cp, rfl, hroom, hroom, h3, .inr ⟨b, _, T, ?_, rfl, hnew, by simp; omega⟩⟩
              exact (i2.2 s.n (by simp [St.move])).trans (by simpa using hb)
            · have hge := grownCap_ge w (len + m) cp e
              have hcm := grownCap_le_maxLen w (len + m) cp e b1
              have hcells : ∀ j v, (bs.toList.take (len * i.size))[j]? = some v → w.cell? ((⟨b, 0, none⟩ : Addr).add j) = some v := by
                intro j v hj
                rw [Addr.add_lit]
                have := range_of_row hh 0 (len * i.size) j v (by simpa using hj)
                exact this
              have hr := run_append_grow (P := C.P) w t ty e i z ht hi hz ⟨b, 0, none⟩ len cp _ hol hcells ad m c vs hl hcc (by omega) (by simp only [maxLen] at b1; omega) (growslice_fits (by omega) b2)
              obtain ⟨M', ρ', h1, _, _, h2⟩ := row (n := len) (cap := grownCap w (len + m) cp e) hol hge hcm (fun v hv => hbone v (List.mem_of_mem_take hv)) olds
              exact ⟨_, _, _, _, M', ρ', hK, hr, drop h1, h2⟩
    · exact hv.elim
  · exact hv.elim

theorem store_step {n : Nat} {x y : Operand} {X Y : AV} {t : TypeId} {K : St → Prop} (h : SatAt C s a w M ρ) (ho : o.op = .store t x y) (hn : szOf C.P t = some n) (hd : ∀ e, o.dst = some e → e < C.N)
    (hX : ∀ ρ', (∀ l, l < s.n → ρ' l = ρ l) → Den ⟨w, M, ρ'⟩ X (a.eval x)) (hY : ∀ ρ', (∀ l, l < s.n → ρ' l = ρ l) → Den ⟨w, M, ρ'⟩ Y (a.eval y))
    (hv : storeV n X Y s K) : ∃ s', K s' ∧ ∀ (Kw : Act → World → Prop) (Q : Exit → Act → World → Prop), (∀ a' w', Sat C (s'.put o.dst (.vl undef)) a' w' → Kw a' w') → owp C o a w Kw Q := by
  unfold storeV at hv
  split at hv
  · rename_i l off
    split at hv
    · rename_i cs hl
      obtain ⟨⟨h1, h2, h3⟩, hK⟩ := hv
      refine ⟨_, hK, fun Kw Q hKw => ?_⟩
      have hX0 := hX ρ fun _ _ => rfl
      simp only [Den] at hX0
      obtain ⟨b, hb, hx⟩ := hX0
      have hbx := (h.facts ρ fun _ _ => rfl).boxes l _ hl
      simp only [BxOK] at hbx
      rcases hbx with ⟨_, h0⟩ | ⟨b', vs, T, hb', hm, hheap, hone, hlen, hden⟩
      · rw [hb] at h0
        cases h0
      · rw [hb] at hb'
        cases hb'
        obtain ⟨h4, h5⟩ := cells_den (hY ρ fun _ _ => rfl) h3
        have h6 := h4.length
        have hst := SatAt.store (off := off) (xs := Y.cells) (ys := (a.eval y).cells) h hl hb hheap (by omega) hlen hone h5 (by simpa using h6) (by
          intro ρ' hρ
          refine ⟨?_, (cells_den (hY ρ' hρ) h3).1⟩
          have hbx' := (h.facts ρ' hρ).boxes l _ hl
          simp only [BxOK] at hbx'
          rcases hbx' with ⟨_, h0⟩ | ⟨b', vs', T', hb', _, hheap', _, _, hden'⟩
          · rw [hρ l (h.lab l _ hl), hb] at h0
            cases h0
          · rw [hρ l (h.lab l _ hl), hb] at hb'
            cases hb'
            rw [hheap] at hheap'
            cases hheap'
            exact hden')
        have hsz : (a.eval y).cells.size = n := by simpa [h1] using h6.symm
        have hrun : (execOp a.eval o).run C.P w = .ok .skip (w.setRow b (vs.toList.take off ++ (a.eval y).cells.toList ++ vs.toList.drop (off + (a.eval y).cells.size)).toArray) := by
          have := run_storeCells_at (P := C.P) b off T (a.eval y).cells.toList 0 vs w hheap (by simp; omega) h5
          simp only [Nat.add_zero, Array.length_toList] at this
          simp [execOp, ho, hx, Instr.storeAt, Instr.sureAddr, storeVar, szOf_spec hn, hsz, this]
        unfold owp
        rw [hrun, Oper.uponIn_skip]
        apply hKw
        rw [h1] at hst
        exact ⟨M, ρ, SatAt.put hst hd fun _ _ => by simp [Den]⟩
    · exact hv.elim
  · exact hv.elim

/-- The world may have new blocks. -/
theorem SatAt.grow (h : SatAt C s a w M ρ) {w' : World} (hf : Fr w (fun _ => False) w') : SatAt C s a w' M ρ := by
  have le : ∀ ρ', KW.le ⟨w, M, ρ'⟩ ⟨w', M, ρ'⟩ := fun ρ' => ⟨hf.size, fun b hb hm => ⟨hm, hf.keep b hb id⟩, hf.rows, rfl⟩
  refine ⟨fun ρ' hρ => ⟨fun i => Den.mono (le ρ') _ _ ((h.facts ρ' hρ).tmps i), fun l x hx => ?_⟩, h.lab, h.inj, ?_, ?_, h.foreign, h.own, h.size,
    h.ex.step hf (fun _ hb => hb.elim) h.fr.size (fun b hb => .inl hb) (fun b hb => .inl hb) (fun b ⟨l, x, hx, hb⟩ => ⟨h.mut hx hb, .inl ⟨l, x, hx, hb⟩⟩) (fun _ _ _ h => h), h.n0, h.ag0⟩
  · have hb := (h.facts ρ' hρ).boxes l x hx
    exact BxOK.mono (le ρ') (fun b hb' => ⟨id, hf.keep b (h.mlt _ (BxOK.lt hb hb')) id⟩) hb
  · exact h.fr.trans hf fun _ _ hh => hh.elim
  · intro b hb
    exact Nat.lt_of_lt_of_le (h.mlt b hb) hf.size

theorem stripL_all {c : Bool} (hc : c = true) {α : Type} {k : α → KW} : ∀ {xs : List AV} {ys : List Value} {K : List AV → Prop}, (∀ i, DenL (k i) xs ys) → stripL c xs K → (Nonempty α) → ∃ zs, (∀ i, DenL (k i) zs ys) ∧ K zs
  | [], ys, K, hd, h, _ => ⟨[], hd, h⟩
  | x :: xs, [], K, hd, h, hn => by
    obtain ⟨i⟩ := hn
    have := hd i
    simp [DenL] at this
  | x :: xs, y :: ys, K, hd, h, hn => by
    simp only [stripL] at h
    simp only [DenL] at hd
    obtain ⟨z, hz, h⟩ := strip_all hc (fun i => (hd i).1) h
    obtain ⟨zs, hzs, h⟩ := stripL_all hc (fun i => (hd i).2) h hn
    exact ⟨z :: zs, fun i => by simp only [DenL]; exact ⟨hz i, hzs i⟩, h⟩

theorem stripL_some {c : Bool} : ∀ {xs : List AV} {K : List AV → Prop}, stripL c xs K → ∃ zs, K zs
  | [], K, h => ⟨[], h⟩
  | x :: xs, K, h => by
    simp only [stripL] at h
    obtain ⟨z, h⟩ := strip_K h
    obtain ⟨zs, h⟩ := stripL_some h
    exact ⟨z :: zs, h⟩

theorem ev_all (h : SatAt C s a w M ρ) (x : Operand) : ∀ i : Agree s.n ρ, Den ⟨w, M, i.1⟩ (s.ev x) (a.eval x) := fun i => ev_den (h.facts i.1 i.2) x

theorem ev_allL (h : SatAt C s a w M ρ) (xs : List Operand) : ∀ i : Agree s.n ρ, DenL ⟨w, M, i.1⟩ (xs.map s.ev) (xs.map a.eval) := fun i => DenL.map (ev_den (h.facts i.1 i.2)) xs

theorem call_run {f : FuncId} {args : Array Operand} {ts : Array TypeId} {fn : Func} (ho : o.op = .call { callee := .value (.func f), args, argTypes := ts }) (hf : C.P.funcs[f]? = some fn)
    (hb : fn.body.isSome = true) (hn : (fn.name == "runtime.NumGoroutine") = false) : (execOp a.eval o).run C.P w = .ok (.enter f (args.map a.eval)) w := by
  have hb' : ¬ fn.body = none := by
    intro e
    simp [e] at hb
  have hn' : ¬ fn.name = "runtime.NumGoroutine" := by simpa using hn
  simp [execOp, ho, resolve, Act.eval, Deferred.ofValue, invoke, callFunc, hf, hn', hb']

/-- A call by its contract. -/
theorem pure_call {f : FuncId} {as : List AV} {vs : List Value} {post : AV → Prop} (h : SatAt C s a w M ρ) (hl : lbs 0 as) (hd : DenL ⟨w, M, ρ⟩ as vs) (hF : FP C.P f as post) :
    Calls C.P f vs.toArray w fun e w' => ∃ v r, e = .returned v ∧ post r ∧ SatAt C s a w' M ρ ∧ ∀ ρ', Den ⟨w', M, ρ'⟩ r v := by
  refine (hF w M ρ vs h.mlt (fun ρ' _ => ⟨DenL.agree (n := 0) (fun l hl => absurd hl (by omega)) as vs hl hd, fun l x hx => by simp [look] at hx⟩) (fun l x hx => by simp [look] at hx)
    (fun l l' x x' b hx => by simp [look] at hx)).mono ?_
  rintro e w' ⟨v, ρ', r, σ', he, ⟨hp, rfl⟩, _, _, _, hfr, _, hden⟩
  have hS : ∀ ρ : Nat → Option Nat, ∀ b, ¬ Sg ρ [] b := fun ρ b hb => by
    obtain ⟨l, x, hx, _⟩ := hb
    simp [look] at hx
  have hM : (fun b => (M b ∧ ¬ Sg ρ [] b) ∨ Sg ρ' [] b) = M := by
    funext b
    simp [hS]
  have hS' : (Sg ρ []) = fun _ => False := by
    funext b
    simp [hS]
  rw [hM] at hden
  rw [hS'] at hfr
  exact ⟨v, r, he, hp, SatAt.grow h hfr, fun ρ'' => (hden ρ'' fun l hl => absurd hl (by omega)).1⟩

theorem look_map_some {g : Nat → Nat} {F : Bx → Bx} : ∀ {σ : List (Nat × Bx)} {i : Nat} {x : Bx}, look (σ.map fun p => (g p.1, F p.2)) i = some x → ∃ l y, look σ l = some y ∧ g l = i ∧ x = F y
  | [], i, x, h => by simp [look] at h
  | (j, y) :: r, i, x, h => by
    simp only [List.map_cons, look] at h
    split at h
    · rename_i e
      exact ⟨j, y, by simp [look], e.symm, by simpa using h.symm⟩
    · rename_i e
      obtain ⟨l, z, h1, h2, h3⟩ := look_map_some h
      refine ⟨l, z, ?_, h2, h3⟩
      simp only [look]
      rw [if_neg]
      · exact h1
      · intro e2
        subst e2
        exact e h2.symm

theorem look_app {α : Type} : ∀ {σ τ : List (Nat × α)} {i : Nat} {x : α}, look (σ ++ τ) i = some x → look σ i = some x ∨ look τ i = some x
  | [], _, _, _, h => .inr h
  | (j, y) :: r, τ, i, x, h => by
    simp only [List.cons_append, look] at h ⊢
    split at h
    · rename_i e
      exact .inl (by simp [e] at h ⊢; exact h)
    · rename_i e
      rw [if_neg e]
      exact look_app h

theorem look_dropL {ks : List Nat} : ∀ {σ : List (Nat × Bx)} {i : Nat} {x : Bx}, look (dropL ks σ) i = some x → i ∉ ks ∧ look σ i = some x
  | [], _, _, h => by simp [dropL, look] at h
  | (j, y) :: r, i, x, h => by
    simp only [dropL] at h
    split at h
    · rename_i hc
      obtain ⟨h1, h2⟩ := look_dropL h
      refine ⟨h1, ?_⟩
      simp only [look]
      rw [if_neg]
      · exact h2
      · intro e
        subst e
        exact h1 (by simpa using hc)
    · rename_i hc
      simp only [look] at h ⊢
      split at h
      · rename_i e
        subst e
        exact ⟨by simpa using hc, by simpa using h⟩
      · rename_i e
        rw [if_neg e]
        exact look_dropL h

theorem nm_lo (s : St) {π : List Nat} {N' l : Nat} (h : l < π.length) : (nm s π N').getD l 0 = π.getD l 0 := by
  simp only [nm, List.getD_eq_getElem?_getD, List.getElem?_append_left h]

theorem nm_hi (s : St) {π : List Nat} {N' l : Nat} (h : π.length ≤ l) (h2 : l < N') : (nm s π N').getD l 0 = s.n + (l - π.length) := by
  simp only [nm, List.getD_eq_getElem?_getD, List.getElem?_append_right h]
  rw [List.getElem?_range' (by omega)]
  simp

theorem look_mem {σ : List (Nat × Bx)} : ∀ {l : Nat} {x : Bx}, look σ l = some x → (l, x) ∈ σ := by
  induction σ with
  | nil => intro l x h; simp [look] at h
  | cons p r ih =>
    obtain ⟨j, y⟩ := p
    intro l x h
    simp only [look] at h
    split at h
    · rename_i e
      subst e
      simp only [Option.some.injEq] at h
      subst h
      simp
    · exact List.mem_cons_of_mem _ (ih h)

/-- A call that is handed boxes. -/
theorem box_call {f : FuncId} {π : List Nat} {as' : List AV} {σc : List (Nat × Bx)} {N' : Nat} {post : AV → List (Nat × Bx) → Prop} {vs : List Value} (h : SatAt C s a w M ρ)
    (hd : DenL ⟨w, M, ρ⟩ (rens π as') vs) (hl : lbs π.length as') (hnd : π.Nodup) (hπ : ∀ l ∈ π, l < s.n) (hN : π.length ≤ N')
    (hσ : ∀ l x, look σc l = some x → l < π.length ∧ lbBx π.length x ∧ look s.σ (π.getD l 0) = some (renBx π x)) (hF : FC C.P f π.length as' σc N' post)
    (hp : ∀ r σ', post r σ' → lb N' r ∧ ∀ l x, look σ' l = some x → lbBx N' x) :
    Calls C.P f vs.toArray w fun e w' => ∃ v r σ' M' ρ', e = .returned v ∧ post r σ' ∧ SatAt C (endSt s π N' σc σ') a w' M' ρ' ∧ ∀ ρ2, (∀ l, l < s.n + (N' - π.length) → ρ2 l = ρ' l) → Den ⟨w', M', ρ2⟩ (ren (nm s π N') r) v := by
  let ρc : Nat → Option Nat := fun l => if l < π.length then ρ (π.getD l 0) else none
  have eπ : ∀ l, l < π.length → π.getD l 0 ∈ π := by
    intro l hl
    rw [List.getD_eq_getElem?_getD, List.getElem?_eq_getElem hl]
    simp
  have ec : ∀ ρ1 : Nat → Option Nat, (∀ l, l < π.length → ρ1 l = ρc l) → ∀ l, l < π.length → ρ1 l = ρ (π.getD l 0) := by
    intro ρ1 h1 l hl
    rw [h1 l hl]
    simp [ρc, hl]
  have inj' : ∀ l l', l < π.length → l' < π.length → π.getD l 0 = π.getD l' 0 → l = l' := by
    intro l l' h1 h2 e
    rw [List.getD_eq_getElem?_getD, List.getElem?_eq_getElem h1, List.getD_eq_getElem?_getD, List.getElem?_eq_getElem h2] at e
    simp only [Option.getD_some] at e
    have hp := List.pairwise_iff_getElem.1 hnd
    rcases Nat.lt_trichotomy l l' with hlt | rfl | hlt
    · exact absurd e (hp l l' h1 h2 hlt)
    · rfl
    · exact absurd e.symm (hp l' l h2 h1 hlt)
  have bx0 := (h.facts ρ fun _ _ => rfl).boxes
  have sg : ∀ b, Sg ρc σc b → ∃ l x, look σc l = some x ∧ l < π.length ∧ look s.σ (π.getD l 0) = some (renBx π x) ∧ ρ (π.getD l 0) = some b := by
    rintro b ⟨l, x, h1, h2⟩
    obtain ⟨h3, h4, h5⟩ := hσ l x h1
    exact ⟨l, x, h1, h3, h5, by rw [← ec ρc (fun _ _ => rfl) l h3]; exact h2⟩
  refine (hF w M ρc vs h.mlt (fun ρ1 h1 => ⟨(DenL.ren (ec ρ1 h1) as' vs hl).2 hd, fun l x hx => ?_⟩) (fun l x hx => (hσ l x hx).1) (fun l l' x x' b hx hx' hb hb' => ?_)).mono ?_
  · obtain ⟨h3, h4, h5⟩ := hσ l x hx
    exact (BxOK.ren (ec ρ1 h1) h3 h4).2 (bx0 _ _ h5)
  · obtain ⟨h3, h4, h5⟩ := hσ l x hx
    obtain ⟨h3', h4', h5'⟩ := hσ l' x' hx'
    rw [ec ρc (fun _ _ => rfl) l h3] at hb
    rw [ec ρc (fun _ _ => rfl) l' h3'] at hb'
    exact inj' l l' h3 h3' (h.inj _ _ _ _ b h5 h5' hb hb')
  · rintro e w' ⟨v, ρ'c, r, σ', he, hpost, hag, hlab, hinj, hfr, hyc, hden⟩
    obtain ⟨hlr, hlx⟩ := hp r σ' hpost
    let M' : Nat → Prop := fun b => (M b ∧ ¬ Sg ρc σc b) ∨ Sg ρ'c σ' b
    let ρn : Nat → Option Nat := fun l => if l < s.n then ρ l else ρ'c (π.length + (l - s.n))
    have own : ∀ l x b, look σ' l = some x → ρ'c l = some b → (l < π.length ∧ (∃ y, look s.σ (π.getD l 0) = some y) ∧ ρ (π.getD l 0) = some b ∧ (π.getD l 0) ∈ σc.map (fun p => π.getD p.1 0)) ∨ (π.length ≤ l ∧ (w.heap.size ≤ b ∨ Sg ρc σc b)) := by
      intro l x b hx hb
      obtain ⟨h1, h2, h3⟩ := hlab l x hx
      by_cases hlt : l < π.length
      · left
        have hsome := h2 hlt
        cases hc : look σc l with
        | none => rw [hc] at hsome; cases hsome
        | some y =>
          obtain ⟨h4, h5, h6⟩ := hσ l y hc
          refine ⟨hlt, ⟨_, h6⟩, ?_, List.mem_map.2 ⟨(l, y), look_mem hc, rfl⟩⟩
          rw [← ec ρc (fun _ _ => rfl) l hlt, ← hag l hlt]
          exact hb
      · exact .inr ⟨by omega, h3 (by omega) b hb⟩
    have nmlt : ∀ l, l < N' → (nm s π N').getD l 0 < s.n + (N' - π.length) := by
      intro l hl
      by_cases h1 : l < π.length
      · rw [nm_lo s h1]
        have := hπ _ (eπ l h1)
        omega
      · rw [nm_hi s (by omega) hl]
        omega
    have ren : ∀ ρ2 : Nat → Option Nat, (∀ l, l < s.n + (N' - π.length) → ρ2 l = ρn l) → ∀ l, l < N' → ρ'c l = ρ2 ((nm s π N').getD l 0) := by
      intro ρ2 h2 l hl
      rw [h2 _ (nmlt l hl)]
      by_cases h1 : l < π.length
      · rw [nm_lo s h1]
        have hlt := hπ _ (eπ l h1)
        simp only [ρn, if_pos hlt]
        rw [hag l h1, ec ρc (fun _ _ => rfl) l h1]
      · rw [nm_hi s (by omega) hl]
        simp only [ρn]
        rw [if_neg (by omega)]
        congr 1
        omega
    have hsgM : ∀ b, Sg ρc σc b → M b := by
      intro b hb
      obtain ⟨l, x, _, _, h5, h6⟩ := sg b hb
      exact h.mut h5 h6
    have hnewM : ∀ b, b < w.heap.size → Sg ρ'c σ' b → M b := by
      rintro b hlt ⟨l, x, hx, hb⟩
      rcases own l x b hx hb with ⟨_, ⟨y, hy⟩, h3, _⟩ | ⟨_, h2⟩
      · exact h.mut hy h3
      · rcases h2 with h2 | h2
        · omega
        · exact hsgM b h2
    have le : ∀ ρ2, KW.le ⟨w, M, ρ2⟩ ⟨w', M', ρ2⟩ := fun ρ2 => by
      refine ⟨hfr.size, fun b hb hm => ⟨fun hm' => ?_, hfr.keep b hb fun hs => hm (hsgM b hs)⟩, hfr.rows, rfl⟩
      rcases hm' with hm' | hm'
      · exact hm hm'.1
      · exact hm (hnewM b hb hm')
    have back : ∀ {i x}, look (endSt s π N' σc σ').σ i = some x → (∃ l y, look σ' l = some y ∧ (nm s π N').getD l 0 = i ∧ x = renBx (nm s π N') y) ∨ (i ∉ σc.map (fun p => π.getD p.1 0) ∧ look s.σ i = some x) := by
      intro i x hx
      rcases look_app hx with hx | hx
      · exact .inl (look_map_some (g := fun l => (nm s π N').getD l 0) hx)
      · exact .inr (look_dropL hx)
    have oldlt : ∀ ρ2 : Nat → Option Nat, (∀ l, l < s.n + (N' - π.length) → ρ2 l = ρn l) → ∀ l, l < s.n → ρ2 l = ρ l := by
      intro ρ2 h2 l hl
      rw [h2 l (by omega)]
      simp [ρn, hl]
    have ρnm : ∀ l, l < N' → ρn ((nm s π N').getD l 0) = ρ'c l := fun l hl => (ren ρn (fun _ _ => rfl) l hl).symm
    have ρold : ∀ {i x}, look s.σ i = some x → ρn i = ρ i := fun {i x} hx => by simp [ρn, h.lab i x hx]
    have notSg : ∀ {i x b}, i ∉ σc.map (fun p => π.getD p.1 0) → look s.σ i = some x → ρ i = some b → ¬ Sg ρc σc b := by
      intro i x b hi hx hb hs
      obtain ⟨l, y, h1, _, h5, h6⟩ := sg b hs
      have := h.inj _ _ _ _ b hx h5 hb h6
      exact hi (List.mem_map.2 ⟨(l, y), look_mem h1, this.symm⟩)
    have hbxlt : ∀ l x b, look σ' l = some x → ρ'c l = some b → b < w'.heap.size := by
      intro l x b hx hb
      have := (hden ρ'c fun _ _ => rfl).2 l x hx
      cases x with
      | cs c =>
        simp only [BxOK] at this
        rcases this with ⟨_, h0⟩ | ⟨b', _, _, h2, _, h3, _⟩
        · rw [hb] at h0
          cases h0
        · rw [hb] at h2
          cases h2
          exact (Array.getElem?_eq_some_iff.1 h3).1
      | mp es =>
        simp only [BxOK] at this
        obtain ⟨b', _, _, h2, _, h3, _⟩ := this
        rw [hb] at h2
        cases h2
        exact (Array.getElem?_eq_some_iff.1 h3).1
      | yc b1 y1 =>
        simp only [BxOK] at this
        rw [hb] at this
        cases this
    have hex : Ex C (Sg ρn (endSt s π N' σc σ').σ) (Ys (endSt s π N' σc σ').σ) w' M' a.defers := by
      refine h.ex.step hfr (fun b hb => ?_) h.fr.size (fun b hb => ?_) (fun b hb => ?_) ?_ ?_
      · obtain ⟨l, x, _, _, h5, h6⟩ := sg b hb
        exact ⟨_, _, h5, h6⟩
      · by_cases hs : Sg ρc σc b
        · exact .inr hs
        · exact .inl (.inl ⟨hb, hs⟩)
      · rcases hb with hb | hb
        · exact .inl hb.1
        · by_cases hlt : b < w.heap.size
          · exact .inl (hnewM b hlt hb)
          · exact .inr (by omega)
      · rintro b ⟨i, x, hx, hb⟩
        rcases back hx with ⟨l, y, hy, rfl, rfl⟩ | ⟨hi, hx⟩
        · rw [ρnm l (hlab l y hy).1] at hb
          refine ⟨.inr ⟨l, y, hy, hb⟩, ?_⟩
          rcases own l y b hy hb with ⟨_, ⟨z, hz⟩, h3, _⟩ | ⟨_, h2⟩
          · exact .inl ⟨_, z, hz, h3⟩
          · rcases h2 with h2 | h2
            · exact .inr ⟨h2, hbxlt l y b hy hb⟩
            · obtain ⟨l2, y2, _, _, h5, h6⟩ := sg b h2
              exact .inl ⟨_, _, h5, h6⟩
        · rw [ρold hx] at hb
          exact ⟨.inl ⟨h.mut hx hb, notSg hi hx hb⟩, .inl ⟨i, x, hx, hb⟩⟩
      · intro i b y hy
        rcases back hy with ⟨l, z, hz, rfl, e⟩ | ⟨hi, hx⟩
        · have hz' : z = .yc b y := by
            cases z <;> simp [renBx] at e
            rw [e.1, e.2]
          exact absurd hz' (hyc l z hz b y)
        · exact hx
    refine ⟨v, r, σ', M', ρn, he, hpost, ⟨fun ρ2 h2 => ⟨fun i => ?_, fun i x hx => ?_⟩, ?_, ?_, ?_, ?_, ?_, ?_, h.size, hex, Nat.le_trans h.n0 (Nat.le_add_right _ _), fun l hl => by have := h.n0; simp only [ρn]; rw [if_pos (by omega)]; exact h.ag0 l hl⟩, fun ρ2 h2 => ?_⟩
    · exact Den.mono (le ρ2) _ _ ((h.facts ρ2 (oldlt ρ2 h2)).tmps i)
    · rcases back hx with ⟨l, y, hy, rfl, rfl⟩ | ⟨hi, hx⟩
      · have hl := (hlab l y hy).1
        exact (BxOK.ren (ren ρ2 h2) hl (hlx l y hy)).1 ((hden ρ'c fun _ _ => rfl).2 l y hy)
      · refine BxOK.mono (le ρ2) (fun b hb => ?_) ((h.facts ρ2 (oldlt ρ2 h2)).boxes i x hx)
        have hb' : ρ i = some b := by rw [← oldlt ρ2 h2 i (h.lab i x hx)]; exact hb
        have hns := notSg hi hx hb'
        exact ⟨fun hm => .inl ⟨hm, hns⟩, hfr.keep b (h.mlt b (h.mut hx hb')) hns⟩
    · intro i x hx
      show i < s.n + (N' - π.length)
      rcases back hx with ⟨l, y, hy, rfl, rfl⟩ | ⟨hi, hx⟩
      · exact nmlt l (hlab l y hy).1
      · have := h.lab i x hx
        omega
    · intro i i' x x' b hx hx' hb hb'
      rcases back hx with ⟨l, y, hy, e1, _⟩ | ⟨hi, hz⟩
      · have hl := (hlab l y hy).1
        rw [← e1, ρnm l hl] at hb
        rcases back hx' with ⟨l', y', hy', e2, _⟩ | ⟨hi', hz'⟩
        · rw [← e2, ρnm l' (hlab l' y' hy').1] at hb'
          rw [← e1, ← e2, hinj l l' y y' b hy hy' hb hb']
        · rw [ρold hz'] at hb'
          rcases own l y b hy hb with ⟨_, ⟨z, hz⟩, h3, h4⟩ | ⟨_, h2⟩
          · exact absurd (h.inj _ _ _ _ b hz hz' h3 hb' ▸ h4) hi'
          · rcases h2 with h2 | h2
            · have := h.mlt b (h.mut hz' hb')
              omega
            · exact absurd h2 (notSg hi' hz' hb')
      · rw [ρold hz] at hb
        rcases back hx' with ⟨l', y', hy', e2, _⟩ | ⟨hi', hz'⟩
        · rw [← e2, ρnm l' (hlab l' y' hy').1] at hb'
          rcases own l' y' b hy' hb' with ⟨_, ⟨z, hz2⟩, h3, h4⟩ | ⟨_, h2⟩
          · exact absurd (h.inj _ _ _ _ b hz2 hz h3 hb ▸ h4) hi
          · rcases h2 with h2 | h2
            · have := h.mlt b (h.mut hz hb)
              omega
            · exact absurd h2 (notSg hi hz hb)
        · rw [ρold hz'] at hb'
          exact h.inj _ _ _ _ b hz hz' hb hb'
    · refine h.fr.trans hfr fun b hb hs => ?_
      obtain ⟨l, y, _, _, h5, h6⟩ := sg b hs
      rcases h.own _ _ b h5 h6 with h7 | h7
      · exact h7
      · omega
    · intro b hb
      rcases hb with hb | ⟨l, x, hx, hb⟩
      · exact Nat.lt_of_lt_of_le (h.mlt b hb.1) hfr.size
      · exact hbxlt l x b hx hb
    · intro b h1 h2
      refine .inl ⟨h.foreign b h1 h2, fun hs => ?_⟩
      obtain ⟨l, y, _, _, h5, h6⟩ := sg b hs
      rcases h.own _ _ b h5 h6 with h7 | h7
      · exact h2 h7
      · have := C.m0 b h1
        omega
    · intro i x b hx hb
      rcases back hx with ⟨l, y, hy, e1, _⟩ | ⟨hi, hz⟩
      · rw [← e1, ρnm l (hlab l y hy).1] at hb
        rcases own l y b hy hb with ⟨_, ⟨z, hz⟩, h3, _⟩ | ⟨_, h2⟩
        · exact h.own _ _ b hz h3
        · rcases h2 with h2 | h2
          · exact .inr (Nat.le_trans h.fr.size h2)
          · obtain ⟨l2, y2, _, _, h5, h6⟩ := sg b h2
            exact h.own _ _ b h5 h6
      · rw [ρold hz] at hb
        exact h.own i x b hz hb
    · exact (Den.ren (ren ρ2 h2) r v hlr).1 (hden ρ'c fun _ _ => rfl).1

theorem SatAt.freeze (h : SatAt C s a w M ρ) (ls : List Nat) : SatAt C { s with σ := dropL ls s.σ } a w (fun b => M b ∧ ¬ Sg ρ (keepL ls s.σ) b) ρ := by
  have le : ∀ ρ', KW.le ⟨w, M, ρ'⟩ ⟨w, fun b => M b ∧ ¬ Sg ρ (keepL ls s.σ) b, ρ'⟩ := fun ρ' => ⟨Nat.le_refl _, fun b _ hm => ⟨fun h => hm h.1, rfl⟩, fun _ c _ h => ⟨c, h, rfl⟩, rfl⟩
  have notk : ∀ {l x b}, look (dropL ls s.σ) l = some x → ρ l = some b → ¬ Sg ρ (keepL ls s.σ) b := by
    rintro l x b hl hb ⟨l', x', hl', hb'⟩
    have e := h.inj _ _ _ _ b (look_dropL hl).2 (look_keepL hl').2 hb hb'
    exact (look_dropL hl).1 (e ▸ (look_keepL hl').1)
  refine ⟨fun ρ' hρ => ⟨fun i => Den.mono (le ρ') _ _ ((h.facts ρ' hρ).tmps i), fun l x hx => ?_⟩, fun l x hx => h.lab l x (look_dropL hx).2, fun l l' x x' b hx hx' => h.inj l l' x x' b (look_dropL hx).2 (look_dropL hx').2, h.fr, fun b hb => h.mlt b hb.1, fun b h1 h2 => ⟨h.foreign b h1 h2, ?_⟩, fun l x b hx => h.own l x b (look_dropL hx).2, h.size, ?_, h.n0, h.ag0⟩
  · refine BxOK.mono (le ρ') (fun b hb => ?_) ((h.facts ρ' hρ).boxes l x (look_dropL hx).2)
    have hb' : ρ l = some b := by rw [← hρ l (h.lab l x (look_dropL hx).2)]; exact hb
    exact ⟨fun hm => ⟨hm, notk hx hb'⟩, rfl⟩
  · rintro ⟨l, x, hl, hb⟩
    rcases h.own _ _ b (look_keepL hl).2 hb with h3 | h3
    · exact h2 h3
    · have := C.m0 b h1
      omega
  · refine h.ex.step (S := Sg ρ (keepL ls s.σ)) (Fr.refl _ _) (fun b ⟨l, x, hl, hb⟩ => ⟨l, x, (look_keepL hl).2, hb⟩) h.fr.size (fun b hb => ?_) (fun b hb => .inl hb.1) (fun b ⟨l, x, hx, hb⟩ => ⟨⟨h.mut (look_dropL hx).2 hb, notk hx hb⟩, .inl ⟨l, x, (look_dropL hx).2, hb⟩⟩) fun l b y hy => (look_dropL hy).2
    by_cases hs : Sg ρ (keepL ls s.σ) b
    · exact .inr hs
    · exact .inl ⟨hb, hs⟩

theorem callA_step {f : FuncId} {as : List AV} {vs : List Value} {K : St → Prop} {Q : Exit → Act → World → Prop} (h : SatAt C s a w M ρ) (hd : ∀ e, o.dst = some e → e < C.N)
    (hden : ∀ i : Agree s.n ρ, DenL ⟨w, M, i.1⟩ as vs) (hv : CallA C.P f as s o.dst K) (Kw : Act → World → Prop) (hKw : ∀ s' a' w', K s' → Sat C s' a' w' → Kw a' w') :
    Calls C.P f vs.toArray w fun
      | .returned v, w'' => Kw (a.put o.dst v) w''
      | .panicked chain, w'' => Q (.panic chain) a w''
      | .outgrown, _ => LetsOut Q := by
  rcases hv with ⟨hl, post, hF, hK⟩ | ⟨π, as', σc, N', post, rfl, hl, hnd, hπ, hN, hσ, hF, hK⟩ | ⟨ls, hl, post, hF, hK⟩
  · refine (pure_call h hl (hden ⟨ρ, fun _ _ => rfl⟩) hF).mono ?_
    rintro e w' ⟨v, r, rfl, hp, hs, hr⟩
    exact hKw _ _ _ (hK r hp) ⟨M, ρ, SatAt.put hs hd fun ρ' _ => hr ρ'⟩
  · refine (box_call h (hden ⟨ρ, fun _ _ => rfl⟩) hl hnd hπ hN hσ hF fun r σ' hp => ⟨(hK r σ' hp).1, (hK r σ' hp).2.1⟩).mono ?_
    rintro e w' ⟨v, r, σ', M', ρ', rfl, hp, hs, hr⟩
    exact hKw _ _ _ (hK r σ' hp).2.2 ⟨M', ρ', SatAt.put hs hd fun ρ2 h2 => hr ρ2 h2⟩
  · have hf := h.freeze ls
    have le : KW.le ⟨w, M, ρ⟩ ⟨w, fun b => M b ∧ ¬ Sg ρ (keepL ls s.σ) b, ρ⟩ := ⟨Nat.le_refl _, fun b _ hm => ⟨fun h => hm h.1, rfl⟩, fun _ c _ h => ⟨c, h, rfl⟩, rfl⟩
    have hd' : DenL ⟨w, fun b => M b ∧ ¬ Sg ρ (keepL ls s.σ) b, ρ⟩ (as.map (frz (keepL ls s.σ) 2)) vs :=
      DenL.mapf (fun x y => frz_den le (fun l x hx => (h.facts ρ fun _ _ => rfl).boxes l x (look_keepL hx).2) (fun l x b hx hb => ⟨fun hm => hm.2 ⟨l, x, hx, hb⟩, rfl⟩) 2 x y) (hden ⟨ρ, fun _ _ => rfl⟩)
    refine (pure_call hf hl hd' hF).mono ?_
    rintro e w' ⟨v, r, rfl, hp, hs, hr⟩
    exact hKw _ _ _ (hK r hp) ⟨_, ρ, SatAt.put hs hd fun ρ' _ => hr ρ'⟩

theorem call_step {f : FuncId} {args : Array Operand} {ts : Array TypeId} {fn : Func} {K : St → Prop} (h : SatAt C s a w M ρ) (ho : o.op = .call { callee := .value (.func f), args, argTypes := ts }) (hf : C.P.funcs[f]? = some fn)
    (hb : fn.body.isSome = true) (hn : (fn.name == "runtime.NumGoroutine") = false) (hd : ∀ e, o.dst = some e → e < C.N)
    (hv : stripL true (args.toList.map s.ev) fun as => CallA C.P f as s o.dst K) (Kw : Act → World → Prop) (Q : Exit → Act → World → Prop) (hKw : ∀ s' a' w', K s' → Sat C s' a' w' → Kw a' w') : owp C o a w Kw Q := by
  obtain ⟨as, hden, hv⟩ := stripL_all rfl (ev_allL h args.toList) hv ⟨⟨ρ, fun _ _ => rfl⟩⟩
  unfold owp
  rw [call_run ho hf hb hn]
  refine upon_enter_of ?_
  have := callA_step (Q := Q) h hd hden hv Kw hKw
  rwa [show (List.map a.eval args.toList).toArray = args.map a.eval by rw [← Array.toList_map]] at this

theorem callG_step {f : FuncId} {args : Array Operand} {ts : Array TypeId} {fn : Func} {K : St → Prop} {c : Bool} (hc : c = true) (h : SatAt C s a w M ρ) (ho : o.op = .call { callee := .value (.func f), args, argTypes := ts }) (hf : C.P.funcs[f]? = some fn)
    (hb : fn.body.isSome = true) (hn : (fn.name == "runtime.NumGoroutine") = false) (hd : ∀ e, o.dst = some e → e < C.N)
    (hv : stripL c (args.toList.map s.ev) fun as => CallG C.P f c as s o.dst K ∨ (c = true ∧ CallA C.P f as s o.dst K)) (Kw : Act → World → Prop) (Q : Exit → Act → World → Prop) (hKw : ∀ s' a' w', K s' → Sat C s' a' w' → Kw a' w') : owp C o a w Kw Q := by
  obtain ⟨as, hden, hv⟩ := stripL_all hc (ev_allL h args.toList) hv ⟨⟨ρ, fun _ _ => rfl⟩⟩
  unfold owp
  rw [call_run ho hf hb hn]
  refine upon_enter_of ?_
  rcases hv with ⟨hl, r, hF, hK⟩ | ⟨_, hv⟩
  rotate_left
  · have := callA_step (Q := Q) h hd hden hv Kw hKw
    rwa [show (List.map a.eval args.toList).toArray = args.map a.eval by rw [← Array.toList_map]] at this
  have := pure_call h hl (hden ⟨ρ, fun _ _ => rfl⟩) (hF hc)
  rw [show (List.map a.eval args.toList).toArray = args.map a.eval by rw [← Array.toList_map]] at this
  refine this.mono ?_
  rintro e w' ⟨v, r', rfl, rfl, hs, hr⟩
  exact hKw _ _ _ hK ⟨M, ρ, SatAt.put hs hd fun ρ' _ => mkgd_den (fun _ => hr ρ') (by simp [hc])⟩
end

/-- How the operations of a region are read. -/
structure GOok (P : Program) (N : Nat) (ops : Array Oper) (o : Oper) (g : GO) : Prop where
  tr : trOper P ops o = some g
  dst : ∀ e, o.dst = some e → e < N

theorem GOok.parts {P : Program} {N : Nat} {ops : Array Oper} {o : Oper} {g : GO} (h : GOok P N ops o g) : g.dst = o.dst ∧ trGuard ops o.guard = some g.g ∧ trOp P o.op = some g.op := by
  have := h.tr
  unfold trOper at this
  split at this
  · rename_i gg m h1 h2
    simp only [Option.some.injEq] at this
    subst this
    exact ⟨rfl, h1, h2⟩
  · cases this

section
variable {C : Cx} {s : St} {a : Act} {w : World} {M : Nat → Prop} {ρ : Nat → Option Nat} {o : Oper} {m : MO}

theorem arr1 {α : Type} {xs : Array α} {x : α} (h : xs.toList = [x]) : xs = #[x] := by
  cases xs
  simp_all

theorem tr_store {n : Nat} {x y : Operand} (h : trOp C.P o.op = some (.store n x y)) : ∃ t, o.op = .store t x y ∧ szOf C.P t = some n := by
  cases ho : o.op <;> simp only [ho, trOp] at h
  case store t p q =>
    simp only [Option.map_eq_some_iff] at h
    obtain ⟨n', h1, h2⟩ := h
    cases h2
    exact ⟨t, rfl, h1⟩
  case call cl =>
    exfalso
    unfold trCall at h
    (repeat' split at h) <;> simp at h
  all_goals (exfalso; (try simp only [trEqs] at h); (repeat' split at h) <;> simp at h)

theorem tr_call {f : Nat} {args : List Operand} (h : trOp C.P o.op = some (.call f args)) :
    ∃ as ts fn, o.op = .call { callee := .value (.func f), args := as, argTypes := ts } ∧ as.toList = args ∧ C.P.funcs[f]? = some fn ∧ fn.body.isSome = true ∧ (fn.name == "runtime.NumGoroutine") = false := by
  cases ho : o.op <;> simp only [ho, trOp] at h
  case call cl =>
    obtain ⟨callee, as, ts⟩ := cl
    unfold trCall at h
    split at h
    case h_5 =>
      rename_i f' _
      split at h
      · rename_i fn hf
        split at h
        · rename_i hh
          simp only [Option.some.injEq, MO.call.injEq] at h
          obtain ⟨rfl, rfl⟩ := h
          simp only [Bool.and_eq_true, Bool.not_eq_true'] at hh
          simp only at *
          subst_vars
          exact ⟨as, ts, fn, rfl, rfl, hf, hh.1, hh.2⟩
        · cases h
      · cases h
    all_goals (exfalso; (try simp only [trEqs] at h); (repeat' split at h) <;> simp at h)
  all_goals (exfalso; (try simp only [trEqs] at h); (repeat' split at h) <;> simp at h)

theorem tr_callv {f : Operand} {args : List Operand} (h : trOp C.P o.op = some (.callv f args)) :
    ∃ t as ts, f = .tmp t ∧ o.op = .call { callee := .value (.tmp t), args := as, argTypes := ts } ∧ as.toList = args := by
  cases ho : o.op <;> simp only [ho, trOp] at h
  case call cl =>
    obtain ⟨callee, as, ts⟩ := cl
    unfold trCall at h
    split at h
    case h_6 =>
      rename_i t ha
      simp only [Option.some.injEq, MO.callv.injEq] at h
      obtain ⟨rfl, rfl⟩ := h
      simp only at ha
      subst ha
      exact ⟨t, as, ts, rfl, rfl, rfl⟩
    all_goals (exfalso; (repeat' split at h) <;> simp at h)
  all_goals (exfalso; (try simp only [trEqs] at h); (repeat' split at h) <;> simp at h)

theorem tr_append {sz bytes : Nat} {x y : Operand} (h : trOp C.P o.op = some (.append sz bytes x y)) : ∃ t e i z, o.op = .call { callee := .builtin .append, args := #[x, y], argTypes := #[t, t] } ∧ C.P.underlying t = some (.slice e) ∧
    C.P.info? e = some i ∧ i.zero = some z ∧ (∀ v ∈ z.cells.toList, v.oneCell' = true) ∧ z.cells.size = i.size ∧ i.size = sz ∧ i.bytes = bytes ∧ 0 < sz := by
  cases ho : o.op <;> simp only [ho, trOp] at h
  case call cl =>
    obtain ⟨callee, as, ts⟩ := cl
    unfold trCall at h
    split at h
    case h_4 =>
      rename_i x' y' hc ha
      split at h
      · rename_i t u hts
        split at h
        · rename_i htu
          subst htu
          split at h
          · rename_i e hu
            split at h
            · rename_i i z0 hi hz
              split at h
              · rename_i hh
                simp only [Option.some.injEq, MO.append.injEq] at h
                obtain ⟨rfl, rfl, rfl, rfl⟩ := h
                unfold zeroOf at hz
                rw [hi] at hz
                simp only [] at hz
                split at hz
                · rename_i z hz0
                  split at hz
                  · rename_i hall
                    simp only [Option.some.injEq] at hz
                    subst hz
                    have e1 : as = #[x', y'] := by
                      cases as
                      simp_all
                    have e2 : ts = #[t, t] := by
                      cases ts
                      simp_all
                    simp only at hc
                    refine ⟨t, e, i, z, by rw [e1, e2, hc], hu, hi, hz0, ?_, by simpa using hh.2, rfl, rfl, by omega⟩
                    intro v hv
                    rw [Array.all_eq_true_iff_forall_mem] at hall
                    exact hall v (by simpa using hv)
                  · cases hz
                · cases hz
              · cases h
            · cases h
          · cases h
        · cases h
      · cases h
    all_goals (exfalso; (try simp only [trEqs] at h); (repeat' split at h) <;> simp at h)
  all_goals (exfalso; (try simp only [trEqs] at h); (repeat' split at h) <;> simp at h)

theorem tr_mkm (h : trOp C.P o.op = some .mkm) : ∃ t, o.op = .makeMap t none := by
  cases ho : o.op <;> simp only [ho, trOp] at h
  case makeMap t r =>
    cases r with
    | none => exact ⟨t, rfl⟩
    | some r => simp at h
  case call cl =>
    exfalso
    unfold trCall at h
    (repeat' split at h) <;> simp at h
  all_goals (exfalso; (try simp only [trEqs] at h); (repeat' split at h) <;> simp at h)

theorem tr_mset {ks : List Nat} {m key x : Operand} (h : trOp C.P o.op = some (.mset ks m key x)) : ∃ t kt e, o.op = .mapUpdate t m key x ∧ C.P.underlying t = some (.map kt e) ∧ mapKey C.P kt = some ks := by
  cases ho : o.op <;> simp only [ho, trOp] at h
  case mapUpdate t m' k' x' =>
    split at h
    · rename_i kt e hu
      simp only [Option.map_eq_some_iff] at h
      obtain ⟨ks', hk, h⟩ := h
      cases h
      exact ⟨t, kt, e, rfl, hu, hk⟩
    · cases h
  case call cl =>
    exfalso
    unfold trCall at h
    (repeat' split at h) <;> simp at h
  all_goals (exfalso; (try simp only [trEqs] at h); (repeat' split at h) <;> simp at h)

/-- A yield: the round runs, and hands back true or false. -/
theorem yield_step {b : Nat} {as : List AV} {vs : List Value} {K : St → Prop} (h : SatAt C s a w M ρ) (hd : ∀ e, o.dst = some e → e < C.N) (hden : ∀ i : Agree s.n ρ, DenL ⟨w, M, i.1⟩ as vs) (hy : YSp C.P C.yb C.J)
    (hv : YieldO b as s o.dst K) (hS : ∀ b, (∃ y w X M, C.J y w X M) → C.M0 b → C.S0 b) (Kw : Act → World → Prop) (Q : Exit → Act → World → Prop) (hKw : ∀ s' a' w', K s' → Sat C s' a' w' → Kw a' w')
    (hrun : (execOp a.eval o).run C.P w = (Instr.yield b vs.toArray).run C.P w) : owp C o a w Kw Q := by
  obtain ⟨l, rest, hl, hlb, hK1, hK0⟩ := hv
  obtain ⟨⟨X, hX1, hX2, hX3, hX4⟩, hnd, hMb⟩ := h.ex
  obtain ⟨el, eb, hJ⟩ := hX4 l b _ hl
  subst eb
  have hd0 : ∀ ρ', DenL ⟨w, M, ρ'⟩ as vs := fun ρ' => DenL.agree (n := 0) (fun l hl => absurd hl (by omega)) as vs hlb (hden ⟨ρ, fun _ _ => rfl⟩)
  obtain ⟨fn, tmps, assign, body, hyr, hround⟩ := hy as rest w X M vs hJ hd0
  unfold owp
  rw [hrun, hyr]
  refine ⟨fun hd => by simp [Cx.F, Fence.wide] at hd, RoundIn.mono (F := Fence.wide) hround ?_⟩
  rintro e w' ⟨v, M', rfl, hJ', hfr, hM1, hXM, hMlt⟩
  have hle : ∀ ρ', KW.le ⟨w, M, ρ'⟩ ⟨w', M', ρ'⟩ := fun ρ' => ⟨hfr.size, fun b hb hm => ⟨fun hm' => hm (hM1 b hb hm'), hfr.keep b hb fun hs => hm hs.1⟩, hfr.rows, rfl⟩
  have ownX : ∀ {i x b}, look s.σ i = some x → ρ i = some b → X b := fun hx hb => hX1 _ ⟨_, _, hx, hb⟩
  have keep : ∀ b, X b → w'.heap[b]? = w.heap[b]? := fun b hb => hfr.keep b (h.mlt b (hX2 b hb)) fun hs => hs.2 hb
  have main : ∀ y, C.J y w' X M' → SatAt C (s.set l (.yc C.yb y)) a w' M' ρ := by
    intro y hJy
    have back : ∀ {i x}, look (s.set l (.yc C.yb y)).σ i = some x → (i = l ∧ x = .yc C.yb y) ∨ (i ≠ l ∧ look s.σ i = some x) := by
      intro i x hx
      simp only [St.set, look_upd] at hx
      split at hx
      · rename_i e
        rw [hl] at hx
        exact .inl ⟨e, by simpa using hx.symm⟩
      · rename_i e
        exact .inr ⟨e, hx⟩
    have some_of : ∀ {i x}, look (s.set l (.yc C.yb y)).σ i = some x → ∃ z, look s.σ i = some z := by
      intro i x hx
      rcases back hx with ⟨e, _⟩ | ⟨_, hx⟩
      · rw [e]
        exact ⟨_, hl⟩
      · exact ⟨_, hx⟩
    refine ⟨fun ρ' hρ => ⟨fun i => Den.mono (hle ρ') _ _ ((h.facts ρ' hρ).tmps i), fun i x hx => ?_⟩, fun i x hx => ?_, fun i i' x x' b hx hx' => ?_, ?_, hMlt, ?_, fun i x b hx hb => ?_, h.size, ?_, h.n0, h.ag0⟩
    · rcases back hx with ⟨e1, e2⟩ | ⟨_, hx⟩
      · rw [e1, e2]
        exact (h.facts ρ' hρ).boxes l _ hl
      · have hbx := (h.facts ρ' hρ).boxes i x hx
        refine BxOK.mono (hle ρ') (fun b hb => ?_) hbx
        have hb' : ρ i = some b := by rw [← hρ i (h.lab i x hx)]; exact hb
        exact ⟨fun _ => hXM b (ownX hx hb'), keep b (ownX hx hb')⟩
    · obtain ⟨z, hz⟩ := some_of hx
      exact h.lab i z hz
    · obtain ⟨z, hz⟩ := some_of hx
      obtain ⟨z', hz'⟩ := some_of hx'
      exact h.inj i i' z z' b hz hz'
    · refine h.fr.trans hfr fun b hb hs => ?_
      rcases hMb b hs.1 with h1 | h1
      · exact hS b ⟨_, _, _, _, hJ⟩ h1
      · omega
    · intro b h1 h2
      exact absurd (hS b ⟨_, _, _, _, hJ⟩ h1) h2
    · obtain ⟨z, hz⟩ := some_of hx
      exact h.own i z b hz hb
    · refine ⟨⟨X, ?_, hXM, fun d hd => ?_, ?_⟩, hnd, fun b hb => ?_⟩
      · rintro b ⟨i, x, hx, hb⟩
        obtain ⟨z, hz⟩ := some_of hx
        exact ownX hz hb
      · obtain ⟨D, e1, e2, e3, e4, e5⟩ := hX3 d hd
        refine ⟨D, e1, e2, (keep D e4).trans e3, e4, ?_⟩
        rintro ⟨i, x, hx, hb⟩
        obtain ⟨z, hz⟩ := some_of hx
        exact e5 ⟨i, z, hz, hb⟩
      · intro i b z hz
        rcases back hz with ⟨e, e2⟩ | ⟨hne, hz⟩
        · cases e2
          exact ⟨e.trans el, rfl, hJy⟩
        · exact absurd ((hX4 i b z hz).1.trans el.symm) hne
      · by_cases hlt : b < w.heap.size
        · exact hMb b (hM1 b hlt hb)
        · have := h.fr.size
          exact .inr (by omega)
  cases v with
  | true => exact hKw _ _ _ hK1 ⟨M', ρ, SatAt.put (x := .vl (.bool true)) (main _ hJ') hd fun _ _ => by simp [Den]⟩
  | false => exact hKw _ _ _ hK0 ⟨M', ρ, SatAt.put (x := .vl (.bool false)) (main _ hJ') hd fun _ _ => by simp [Den]⟩

/-- One operation of a region. -/
theorem vop_step {ops : Array Oper} {g : GO} {K : St → Prop} (hCy : C.Y) (h : SatAt C s a w M ρ) (hg : GOok C.P C.N ops o g) (hv : vop C.P g s K) (Kw : Act → World → Prop) (Q : Exit → Act → World → Prop)
    (hKw : ∀ s' a' w', K s' → Sat C s' a' w' → Kw a' w') : if Region.wanted o (yielded ops a.tmps) then owp C o a w Kw Q else Kw (a.put o.dst undef) w := by
  obtain ⟨e1, e2, e3⟩ := hg.parts
  have hd := hg.dst
  unfold vop at hv
  rw [e1] at hv
  cases hgd : o.guard with
  | none =>
    rw [hgd] at e2
    simp only [trGuard, Option.some.injEq] at e2
    rw [← e2] at hv
    simp only [] at hv
    rw [if_pos (by simp [Region.wanted, hgd])]
    have quiet : ∀ {m : MO}, g.op = m → (qv true m s.ev (look s.σ) s.n fun r ν => K ((s.new ν).put o.dst r)) → owp C o a w Kw Q := by
      intro m hm hq
      subst hm
      obtain ⟨r, ν, hK, hstep⟩ := quiet_step h e3 hd rfl hq
      exact hstep r Kw Q (fun _ _ h => h) fun a' w' hs => hKw _ a' w' hK hs
    cases hop : g.op <;> rw [hop] at hv <;> simp only [vgo] at hv <;> try (exact quiet hop hv)
    case store n x y =>
      obtain ⟨t, ho, hn⟩ := tr_store (by rw [e3, hop])
      obtain ⟨X, hX, hv⟩ := strip_all rfl (ev_all h x) hv
      obtain ⟨Y, hY, hv⟩ := strip_all rfl (ev_all h y) hv
      obtain ⟨s', hK, hstep⟩ := store_step h ho hn hd (fun ρ' hρ => hX ⟨ρ', hρ⟩) (fun ρ' hρ => hY ⟨ρ', hρ⟩) hv
      exact hstep Kw Q fun a' w' hs => hKw _ a' w' hK hs
    case call f args =>
      obtain ⟨as, ts, fn, ho, rfl, hf, hb, hn⟩ := tr_call (by rw [e3, hop])
      exact call_step h ho hf hb hn hd hv Kw Q hKw
    case callv f args =>
      obtain ⟨t, as, ts, rfl, ho, rfl⟩ := tr_callv (by rw [e3, hop])
      obtain ⟨F, hF, hv⟩ := strip_all rfl (ev_all h (.tmp t)) hv
      split at hv
      · rename_i n first caps
        obtain ⟨zs, hz, hent, hv⟩ := stripL_all rfl (ev_allL h as.toList) hv ⟨⟨ρ, fun _ _ => rfl⟩⟩
        have hF0 := hF ⟨ρ, fun _ _ => rfl⟩
        simp only [Den] at hF0
        obtain ⟨fs, cs, hfv, _, _⟩ := hF0
        have hrun : (execOp a.eval o).run C.P w = .ok (.enter n (fs ++ as.map a.eval ++ cs)) w := by
          simp [execOp, ho, resolve, hfv, Deferred.ofValue, invoke]
          exact hent _ _
        unfold owp
        rw [hrun]
        refine upon_enter_of ?_
        have := callA_step (vs := fs.toList ++ as.toList.map a.eval ++ cs.toList) (Q := Q) h hd (fun i => ?_) hv Kw hKw
        · have e : (fs.toList ++ as.toList.map a.eval ++ cs.toList).toArray = fs ++ as.map a.eval ++ cs := by
            rw [← Array.toList_map]
            simp
          rwa [e] at this
        · have hi := hF i
          simp only [Den] at hi
          obtain ⟨fs', cs', hfv', h1, h2⟩ := hi
          rw [hfv] at hfv'
          cases hfv'
          exact DenL.append (DenL.append h1 (hz i)) h2
      · rename_i b fs cs
        obtain ⟨zs, hz, ⟨rfl, rfl⟩, hyv⟩ := stripL_all rfl (ev_allL h as.toList) hv ⟨⟨ρ, fun _ _ => rfl⟩⟩
        have hF0 := hF ⟨ρ, fun _ _ => rfl⟩
        simp only [Den] at hF0
        refine yield_step h hd hz hCy.1 hyv hCy.2 Kw Q hKw ?_
        rw [← Array.toList_map, Array.toArray_toList]
        simp [execOp, ho, resolve, hF0, Deferred.ofValue, invoke]
      · exact hv.elim
    case mkm =>
      obtain ⟨t, ho⟩ := tr_mkm (by rw [e3, hop])
      have hrun : (execOp a.eval o).run C.P w = .ok (.value (.map (some w.heap.size))) (w.alloc (.map #[] 0)) := by
        simp [execOp, ho, Instr.makeMap]
      unfold owp
      rw [hrun, Oper.uponIn_value]
      refine hKw _ _ _ hv ⟨_, _, SatAt.put (h.freshBx (x0 := .mp []) (g := w.heap.size) (Fr.alloc w _ _) (Nat.le_refl _) (by rw [World.size_alloc]; omega) (fun _ _ => by simp) fun ρ' hρ => ?_) hd fun ρ' hρ => ?_⟩
      · exact ⟨w.heap.size, #[], 0, (hρ s.n (by omega)).trans (by simp), .inr rfl, heap_alloc_new w _, by simp, by simp, rfl, by simp [DenL]⟩
      · simp only [Den]
        exact ⟨w.heap.size, (hρ s.n (by simp [St.new])).trans (by simp), rfl⟩
    case mset ks m key x =>
      obtain ⟨t, kt, e, ho, hu, hmk⟩ := tr_mset (by rw [e3, hop])
      obtain ⟨MM, hMM, hv⟩ := strip_all rfl (ev_all h m) hv
      split at hv
      · rename_i l
        split at hv
        · rename_i es hl
          obtain ⟨KK, hKK, hv⟩ := strip_all rfl (ev_all h key) hv
          obtain ⟨XX, hXX, hv⟩ := strip_all rfl (ev_all h x) hv
          unfold msetE at hv
          split at hv
          · rename_i kv hkv
            obtain ⟨⟨ha, hself, hes⟩, hfv, hK⟩ := hv
            have hm0 := hMM ⟨ρ, fun _ _ => rfl⟩
            simp only [Den] at hm0
            obtain ⟨b, hb, hmv⟩ := hm0
            have hkey := toVal_den hkv (hKK ⟨ρ, fun _ _ => rfl⟩)
            have hbx := (h.facts ρ fun _ _ => rfl).boxes l _ hl
            simp only [BxOK] at hbx
            obtain ⟨b', ents, clock, hb', hM, hheap, hborn, hnodup, hkeys, hvals⟩ := hbx
            rw [hb] at hb'
            cases hb'
            have hheap : w.heap[b]? = some (.map ents clock) := hheap
            have hfind := run_find (P := C.P) (w := w) (k := ⟨w, M, ρ⟩) hmk ha hes hkeys hvals hfv
            simp only at hfind
            obtain ⟨⟨fs, hst⟩, hf⟩ := mapKey_spec hmk
            obtain ⟨rr, hrr⟩ := Option.isSome_iff_exists.1 hself
            have hck : (Instr.checkKey false 10000 kt kv).run C.P w = .ok () w := checkKey_flat (P := C.P) (w := w) false 10000 0 kt ks kv rr hf (isAggV_formed hst ha) hrr
            have hlt : b < w.heap.size := (Array.getElem?_eq_some_iff.1 hheap).1
            have hget : (getObj b).run C.P w = .ok (.map ents clock) w := by simp [getObj, Sem.run, hheap]
            have hset : ∀ o' : Obj, (setObj b o').run C.P w = .ok () (w.putObj b o') := fun o' => by simp [setObj, Sem.run, hheap, World.putObj]
            have hrun : (execOp a.eval o).run C.P w = .ok .skip (w.putObj b (.map (ents.push { key := kv, val := a.eval x, born := clock }) (clock + 1))) := by
              simp [execOp, ho, Instr.mapUpdate, run_underlying hu, hmv, hget, hkey, hck, hfind, hset]
            have hnew : (w.putObj b (.map (ents.push { key := kv, val := a.eval x, born := clock }) (clock + 1))).heap[b]? = some (.map (ents.push { key := kv, val := a.eval x, born := clock }) (clock + 1)) := World.putObj_heap_same hlt
            have hfr : Fr w (fun i => i = b) (w.putObj b (.map (ents.push { key := kv, val := a.eval x, born := clock }) (clock + 1))) := by
              refine ⟨rfl, rfl, rfl, by rw [World.putObj_size]; exact Nat.le_refl _, fun b' _ hne => World.putObj_heap_other hne, fun b' c T' hc => ?_, Nat.le_refl _⟩
              by_cases e : b' = b
              · subst e
                rw [hheap] at hc
                cases hc
              · exact ⟨c, by rw [World.putObj_heap_other e]; exact hc, rfl⟩
            unfold owp
            rw [hrun, Oper.uponIn_skip]
            refine hKw _ _ _ hK ⟨_, _, SatAt.put (h.setobj hl hb (fun _ _ => by simp) hfr fun ρ' hρ => ?_) hd fun _ _ => by simp [Den]⟩
            have hρl : ρ' l = some b := (hρ l (h.lab l _ hl)).trans hb
            have hbx' := (h.facts ρ' hρ).boxes l _ hl
            simp only [BxOK] at hbx'
            obtain ⟨b2, ents2, clock2, hb2, _, hheap2, _, _, _, hvals2⟩ := hbx'
            rw [hρl] at hb2
            cases hb2
            have hheap2 : w.heap[b]? = some (.map ents2 clock2) := hheap2
            rw [hheap] at hheap2
            cases hheap2
            have le : KW.le ⟨w, M, ρ'⟩ ⟨w.putObj b (.map (ents.push { key := kv, val := a.eval x, born := clock }) (clock + 1)), M, ρ'⟩ :=
              ⟨hfr.size, fun b' hb' hm => ⟨hm, hfr.keep b' hb' fun e => hm (e ▸ hM)⟩, hfr.rows, rfl⟩
            refine ⟨b, _, _, hρl, hM, hnew, ?_, ?_, ?_, ?_⟩
            · intro e' he'
              simp only [Array.toList_push, List.mem_append, List.mem_singleton] at he'
              rcases he' with he' | rfl
              · have := hborn e' he'
                omega
              · simp
            · simp only [Array.toList_push, List.map_append, List.map_cons, List.map_nil]
              refine List.nodup_append.2 ⟨hnodup, by simp, ?_⟩
              intro x hx y hy
              simp only [List.mem_singleton] at hy
              obtain ⟨e', he', rfl⟩ := List.mem_map.1 hx
              have := hborn e' he'
              omega
            · simp [hkeys]
            · simp only [Array.toList_push, List.map_append, List.map_cons, List.map_nil]
              exact DenL.append (DenL.mono le _ _ hvals2) (by simp only [DenL]; exact ⟨Den.mono le _ _ (hXX ⟨ρ', hρ⟩), trivial⟩)
          · exact hv.elim
        · exact hv.elim
      · exact hv.elim
    case append sz bytes x y =>
      obtain ⟨t, e, i, z, ho, hu, hi, hz, hz1, hzs, hsz, hby, h0⟩ := tr_append (by rw [e3, hop])
      obtain ⟨X, hX, hv⟩ := strip_all rfl (ev_all h x) hv
      obtain ⟨Y, hY, hv⟩ := strip_all rfl (ev_all h y) hv
      obtain ⟨m, news, yo, c, vs, hv, hy, hl, hone, hdn, hc⟩ := news_ok h hY hv
      obtain ⟨s', r, v, w', M', ρ', hK, hrun, hs', hr⟩ := app_step (ty := o.type) h hu hi hz hzs hz1 hsz hby h0 hX hl hone hdn hc hv
      have hex : (execOp a.eval o).run C.P w = .ok (.value v) w' := by
        unfold execOp
        simp only [ho, resolve, invoke, builtin, Sem.run_bind, Sem.run_pure, Result.andThen_ok, List.map_toArray, List.map_cons, List.map_nil, hy]
        rw [hrun]
        rfl
      unfold owp
      rw [hex, Oper.uponIn_value]
      exact hKw _ _ _ hK ⟨M', ρ', SatAt.put hs' hd fun ρ'' hρ => hr ⟨ρ'', hρ⟩⟩
  | some jw =>
    obtain ⟨j, want⟩ := jw
    rw [hgd] at e2
    simp only [trGuard] at e2
    split at e2
    · rename_i d hj
      simp only [Option.some.injEq] at e2
      rw [← e2] at hv
      simp only [] at hv
      have hwant : ∀ b, a.tmps.getD d undef = .bool b → (Region.wanted o (yielded ops a.tmps) = (b == want)) := by
        intro b hb
        have : a.tmps[d]? = some (.bool b) := by
          rw [Array.getD_eq_getD_getElem?] at hb
          cases ht : a.tmps[d]? with
          | none => simp [ht, undef] at hb
          | some v => simp [ht] at hb; rw [hb]
        simp [Region.wanted, hgd, yielded, hj, this]
      have hunw : a.tmps.getD d undef = undef → Region.wanted o (yielded ops a.tmps) = false := by
        intro hb
        have : yielded ops a.tmps j = none := by
          unfold yielded
          rw [hj]
          simp only [Option.bind_some]
          rw [Array.getD_eq_getD_getElem?] at hb
          cases ht : a.tmps[d]? with
          | none => rfl
          | some v =>
            simp [ht, undef] at hb
            subst hb
            rfl
        simp [Region.wanted, hgd, this]
      have main : ∀ c : Bool, Region.wanted o (yielded ops a.tmps) = c → vgv C.P o.dst c g.op s K → if Region.wanted o (yielded ops a.tmps) then owp C o a w Kw Q else Kw (a.put o.dst undef) w := by
        intro c hc hv
        rw [hc]
        have skip : ∀ r, c = false → K (s.put o.dst (mkgd c r)) → Kw (a.put o.dst undef) w := fun r hc0 hK =>
          hKw _ _ _ hK ⟨M, ρ, SatAt.put h hd fun ρ' _ => mkgd_den (by simp [hc0]) fun _ => rfl⟩
        have quiet : ∀ {m : MO}, g.op = m → (qv c m s.ev (look s.σ) s.n fun r ν => ν = [] ∧ K (s.put o.dst (mkgd c r))) → if c then owp C o a w Kw Q else Kw (a.put o.dst undef) w := by
          intro m hm hq
          subst hm
          cases hcb : c with
          | false =>
            rw [hcb] at hq skip
            obtain ⟨r, ν, ⟨_, hK⟩, _⟩ := qv_det hq
            simpa using skip r rfl hK
          | true =>
            rw [hcb] at hq
            obtain ⟨r, ν, hK, hdet⟩ := qv_det hq
            obtain ⟨r', ν', ⟨rfl, rfl⟩, hstep⟩ := quiet_step h e3 hd rfl (hdet (fun r' ν' => r' = r ∧ ν' = ν) ⟨rfl, rfl⟩)
            obtain ⟨rfl, hK⟩ := hK
            exact hstep (mkgd true r') Kw Q (fun k v hv => mkgd_den (fun _ => hv) (by simp)) fun a' w' hs => hKw _ a' w' hK hs
        have allocs : ∀ {m : MO}, g.op = m → (bif c then qv true m s.ev (look s.σ) s.n fun r ν => K ((s.new ν).put o.dst r) else K (s.put o.dst (.gd false .any))) → if c then owp C o a w Kw Q else Kw (a.put o.dst undef) w := by
          intro m hm hq
          subst hm
          cases hcb : c with
          | false =>
            rw [hcb] at hq
            exact hKw _ _ _ hq ⟨M, ρ, SatAt.put h hd fun ρ' _ => by simp [Den]⟩
          | true =>
            rw [hcb] at hq
            obtain ⟨r, ν, hK, hstep⟩ := quiet_step (K := fun r ν => K ((s.new ν).put o.dst r)) h e3 hd rfl hq
            exact hstep r Kw Q (fun _ _ h => h) fun a' w' hs => hKw _ a' w' hK hs
        cases hop : g.op <;> rw [hop] at hv <;> simp only [vgv, vgg] at hv <;> try (first | exact allocs hop hv | exact quiet hop hv)
        case call f args =>
          obtain ⟨as, ts, fn, ho, rfl, hf, hb, hn⟩ := tr_call (by rw [e3, hop])
          cases hcb : c with
          | false =>
            rw [hcb] at hv skip
            obtain ⟨zs, ⟨_, r, _, hK⟩ | ⟨h, _⟩⟩ := stripL_some hv
            · simpa using skip r rfl hK
            · cases h
          | true =>
            rw [hcb] at hv
            exact callG_step rfl h ho hf hb hn hd hv Kw Q hKw
      have hgt := (h.facts ρ fun _ _ => rfl).tmps d
      split at hv
      · rename_i p hp
        rw [hp] at hgt
        simp only [Den] at hgt
        refine main _ ?_ hv
        rw [hwant p hgt]
        cases p <;> cases want <;> rfl
      · rename_i dd p hp
        rw [hp] at hgt
        simp only [Den] at hgt
        refine main _ ?_ hv
        cases dd with
        | false =>
          rw [hunw (hgt.2 rfl)]
          rfl
        | true =>
          rw [hwant p (hgt.1 rfl)]
          cases p <;> cases want <;> rfl
      · exact hv.elim
    · cases e2
end
end Go.QL
