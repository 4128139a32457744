/- Regions in any order. -/
import Derived.Test.YtfhkfahgimibaaaCodeOK
namespace Go.QL
open RowKit

def evT (T : Nat → AV) : Operand → AV
  | .tmp t => T t
  | .const v => .vl v
  | .global _ => .any
  | .func f => .fn (.func f) [] []

def MO.opers : MO → List Operand
  | .mv x | .box _ x | .load _ _ x | .un _ x | .conv _ x | .faddr _ x | .len x | .slen x | .ext _ x => [x]
  | .pick x y z => [x, y, z]
  | .build _ ps | .bsl _ _ _ ps => ps.map fun p => p.2.2
  | .lkp _ _ _ x y => [x, y]
  | .mset _ x y z => [x, y, z]
  | .store _ x y | .bin _ x y | .beq _ x y | .beqs _ _ x y | .iaddr _ x y | .aaddr _ _ x y | .idx _ _ _ x y | .mm _ x y | .append _ _ x y => [x, y]
  | .mkf _ xs ys => xs ++ ys
  | .mks _ _ _ x y => [x, y]
  | .slc _ x lo hi mx => x :: (lo.toList ++ hi.toList ++ mx.toList)
  | .call _ xs => xs
  | .callv f xs => f :: xs
  | .alloc _ | .mkm | .other => []

theorem fillV_congr {g g' : Operand → AV} {c : Bool} : ∀ {ps : List (Nat × Nat × Operand)} {z : List AV} {K : List AV → Prop}, (∀ p ∈ ps, g p.2.2 = g' p.2.2) → fillV g c z ps K → fillV g' c z ps K
  | [], _, _, _, h => h
  | (off, n, x) :: ps, z, K, he, h => by
    have e := he (off, n, x) (by simp)
    simp only at e
    simp only [fillV, e] at h ⊢
    obtain ⟨z', h1, h2⟩ := strip_det h
    refine h2 _ ⟨h1.1, fillV_congr (fun p hp => he p (by simp [hp])) h1.2⟩

theorem qv_congr {c : Bool} {m : MO} {g g' : Operand → AV} {σ : Nat → Option Bx} {l : Nat} {K : AV → List Bx → Prop} (he : ∀ x ∈ m.opers, g x = g' x) (h : qv c m g σ l K) : qv c m g' σ l K := by
  cases m <;> simp only [MO.opers, List.mem_cons, List.mem_append, List.not_mem_nil, or_false, List.mem_map, forall_eq_or_imp, forall_eq, forall_exists_index, and_imp, forall_apply_eq_imp_iff₂] at he
  case build z ps => exact fillV_congr he h
  case bsl sz len z ps => exact fillV_congr he h
  case slc sz x lo hi mx =>
    have eb : ∀ (lo : Option Operand) (d : Int) (K : Int → Prop), (∀ x, lo = some x → g x = g' x) → slcB g c lo d K → slcB g' c lo d K := by
      intro lo d K he h
      unfold slcB at h ⊢
      split
      · exact h
      · rename_i x
        simp only [he x rfl] at h
        exact h
    have h1 : g x = g' x := he.1
    have h2 : ∀ y, lo = some y → g y = g' y := fun y hy => he.2 y (by simp [hy])
    have h3 : ∀ y, hi = some y → g y = g' y := fun y hy => he.2 y (by simp [hy])
    have h4 : ∀ y, mx = some y → g y = g' y := fun y hy => he.2 y (by simp [hy])
    have en : ∀ (lo : Option Operand) (d : Int), (∀ x, lo = some x → g x = g' x) → slcB g c lo d = slcB g' c lo d := by
      intro lo d he
      funext K
      exact propext ⟨eb lo d K he, fun h => by
        unfold slcB at h ⊢
        split
        · exact h
        · rename_i x
          simp only [← he x rfl] at h
          exact h⟩
    simp only [qv, h1, en lo _ h2, en hi _ h3, en mx _ h4] at h ⊢
    exact h
  case mkf f xs ys =>
    simp only [qv] at h ⊢
    rw [← List.map_congr_left (fun x hx => he x (.inl hx)), ← List.map_congr_left (fun x hx => he x (.inr hx))]
    exact h
  all_goals simp only [qv, he] at h ⊢; try exact h

/-- The blocks of the boxes in use. -/
def SgF (D : Nat → Prop) (σ : Nat → Option Bx) (ρ : Nat → Option Nat) (b : Nat) : Prop := ∃ l x, D l ∧ σ l = some x ∧ ρ l = some b

def YsF (D : Nat → Prop) (σ : Nat → Option Bx) (l b : Nat) (y : Option (List (List AV))) : Prop := D l ∧ σ l = some (.yc b y)

/-- What is known of a frame and a world while a region's operations run in some order: D holds the labels that are in use. -/
structure SatF (C : Cx) (D : Nat → Prop) (T : Nat → AV) (σ : Nat → Option Bx) (a : Act) (w : World) (M : Nat → Prop) (ρ : Nat → Option Nat) : Prop where
  tmps : ∀ i, Den ⟨w, M, ρ⟩ (T i) (a.tmps.getD i undef)
  boxes : ∀ l x, D l → σ l = some x → BxOK ⟨w, M, ρ⟩ l x
  none : ∀ l, ¬ D l → ρ l = none
  inj : ∀ l l' x x' b, D l → D l' → σ l = some x → σ l' = some x' → ρ l = some b → ρ l' = some b → l = l'
  fr : Fr C.w0 C.S0 w
  mlt : ∀ b, M b → b < w.heap.size
  foreign : ∀ b, C.M0 b → ¬ C.S0 b → M b
  own : ∀ l x b, D l → σ l = some x → ρ l = some b → C.S0 b ∨ C.w0.heap.size ≤ b
  size : a.tmps.size = C.N
  ex : Ex C (SgF D σ ρ) (YsF D σ) w M a.defers
  d0 : ∀ l, l < C.N0 → D l
  ag0 : ∀ l, l < C.N0 → ρ l = C.ρ0 l

mutual
/-- More labels are known. -/
theorem Den.more {w : World} {M : Nat → Prop} {ρ ρ' : Nat → Option Nat} (h : ∀ l b, ρ l = some b → ρ' l = some b) : ∀ (x : AV) (y : Value), Den ⟨w, M, ρ⟩ x y → Den ⟨w, M, ρ'⟩ x y
  | .vl x, y, hd => by simpa [Den] using hd
  | .any, y, _ => by simp [Den]
  | .ce, y, hd => by simpa [Den] using hd
  | .sl es, y, hd => by
    simp only [Den] at hd ⊢
    obtain ⟨a, cap, h1, h2, h3, h4⟩ := hd
    refine ⟨a, cap, h1, h2, h3, ?_⟩
    rcases h4 with h4 | ⟨b, off, sz, h5, hb, h6, h7⟩
    · exact .inl h4
    · exact .inr ⟨b, off, sz, h5, hb, h6, DenEs.more h es b off sz h7⟩
  | .dp cs, y, hd => by
    simp only [Den] at hd ⊢
    obtain ⟨b, off, h1, hb, h2, h3⟩ := hd
    exact ⟨b, off, h1, hb, h2, DenCs.more h cs b off h3⟩
  | .ptr l off, y, hd => by
    simp only [Den] at hd ⊢
    obtain ⟨b, h1, h2⟩ := hd
    exact ⟨b, h _ _ h1, h2⟩
  | .agg cs, y, hd => by
    simp only [Den] at hd ⊢
    obtain ⟨vs, h1, h2⟩ := hd
    exact ⟨vs, h1, DenL.more h cs _ h2⟩
  | .tup cs, y, hd => by
    simp only [Den] at hd ⊢
    obtain ⟨vs, h1, h2⟩ := hd
    exact ⟨vs, h1, DenL.more h cs _ h2⟩
  | .fn f first caps, y, hd => by
    simp only [Den] at hd ⊢
    obtain ⟨fs, cs, h1, h2, h3⟩ := hd
    exact ⟨fs, cs, h1, DenL.more h first _ h2, DenL.more h caps _ h3⟩
  | .osl sz l off len cap, y, hd => by
    simp only [Den] at hd ⊢
    obtain ⟨a, cap', h1, h2, h3, h4, h5⟩ := hd
    refine ⟨a, cap', h1, h2, h3, h4, ?_⟩
    rcases h5 with h5 | ⟨b, vs, T, h6, h7⟩
    · exact .inl h5
    · exact .inr ⟨b, vs, T, h _ _ h6, h7⟩
  | .mp l, y, hd => by
    simp only [Den] at hd ⊢
    obtain ⟨b, h1, h2⟩ := hd
    exact ⟨b, h _ _ h1, h2⟩
  | .imp _, y, hd => by
    simp only [Den] at hd ⊢
    exact hd
  | .gd g x, y, hd => by
    simp only [Den] at hd ⊢
    exact ⟨fun hg => Den.more h x y (hd.1 hg), hd.2⟩
theorem DenEs.more {w : World} {M : Nat → Prop} {ρ ρ' : Nat → Option Nat} (h : ∀ l b, ρ l = some b → ρ' l = some b) : ∀ (es : List (List AV)) (b off sz : Nat), DenEs ⟨w, M, ρ⟩ es b off sz → DenEs ⟨w, M, ρ'⟩ es b off sz
  | [], _, _, _, _ => by simp [DenEs]
  | e :: es, b, off, sz, hd => by
    simp only [DenEs] at hd ⊢
    exact ⟨hd.1, DenCs.more h e b off hd.2.1, DenEs.more h es b (off + sz) sz hd.2.2⟩
theorem DenCs.more {w : World} {M : Nat → Prop} {ρ ρ' : Nat → Option Nat} (h : ∀ l b, ρ l = some b → ρ' l = some b) : ∀ (cs : List AV) (b off : Nat), DenCs ⟨w, M, ρ⟩ cs b off → DenCs ⟨w, M, ρ'⟩ cs b off
  | [], _, _, _ => by simp [DenCs]
  | x :: cs, b, off, hd => by
    simp only [DenCs] at hd ⊢
    obtain ⟨⟨y, h1, h2, h3⟩, h4⟩ := hd
    exact ⟨⟨y, h1, h2, Den.more h x y h3⟩, DenCs.more h cs b (off + 1) h4⟩
theorem DenL.more {w : World} {M : Nat → Prop} {ρ ρ' : Nat → Option Nat} (h : ∀ l b, ρ l = some b → ρ' l = some b) : ∀ (cs : List AV) (vs : List Value), DenL ⟨w, M, ρ⟩ cs vs → DenL ⟨w, M, ρ'⟩ cs vs
  | [], [], _ => by simp [DenL]
  | [], _ :: _, hd => by simp [DenL] at hd
  | _ :: _, [], hd => by simp [DenL] at hd
  | x :: cs, y :: vs, hd => by
    simp only [DenL] at hd ⊢
    exact ⟨Den.more h x y hd.1, DenL.more h cs vs hd.2⟩
end

theorem BxOK.more {w : World} {M : Nat → Prop} {ρ ρ' : Nat → Option Nat} (h : ∀ l b, ρ l = some b → ρ' l = some b) {l : Nat} {x : Bx} (hl : ρ' l = ρ l) (hd : BxOK ⟨w, M, ρ⟩ l x) : BxOK ⟨w, M, ρ'⟩ l x := by
  cases x with
  | cs c =>
    simp only [BxOK, hl] at hd ⊢
    rcases hd with hd | ⟨b, vs, T, h1, h2, h3, h4, h5, h6⟩
    · exact .inl hd
    · exact .inr ⟨b, vs, T, h1, h2, h3, h4, h5, DenL.more h _ _ h6⟩
  | mp es =>
    simp only [BxOK, hl] at hd ⊢
    obtain ⟨b, ents, clock, h1, h2, h3, h4, h5, h6, h7⟩ := hd
    exact ⟨b, ents, clock, h1, h2, h3, h4, h5, h6, DenL.more h _ _ h7⟩
  | yc b y =>
    simp only [BxOK, hl] at hd ⊢
    exact hd

section
variable {C : Cx} {s : St} {a : Act} {w : World} {M : Nat → Prop} {ρ : Nat → Option Nat} {D : Nat → Prop} {T : Nat → AV} {σ : Nat → Option Bx}

theorem SatAt.toF (h : SatAt C s a w M ρ) : ∃ ρ', SatF C (· < s.n) s.get (look s.σ) a w M ρ' := by
  classical
  let ρ' : Nat → Option Nat := fun l => if l < s.n then ρ l else none
  have e : ∀ l, l < s.n → ρ' l = ρ l := fun l hl => by simp [ρ', hl]
  have hf := h.facts ρ' e
  exact ⟨ρ', hf.tmps, fun l x _ hx => hf.boxes l x hx, fun l hl => by simp only [ρ']; rw [if_neg hl], fun l l' x x' b h1 h2 h3 h4 h5 h6 => h.inj l l' x x' b h3 h4 ((e l h1).symm.trans h5) ((e l' h2).symm.trans h6),
    h.fr, h.mlt, h.foreign, fun l x b h1 h2 h3 => h.own l x b h2 ((e l h1).symm.trans h3), h.size,
    h.ex.step (Fr.refl _ fun _ => False) (fun _ hb => hb.elim) h.fr.size (fun b hb => .inl hb) (fun b hb => .inl hb) (fun b ⟨l, x, hD, hx, hb⟩ => ⟨h.mut hx ((e l hD).symm.trans hb), .inl ⟨l, x, hx, (e l hD).symm.trans hb⟩⟩) (fun l b y hy => hy.2), fun l hl => Nat.lt_of_lt_of_le hl h.n0, fun l hl => (e l (Nat.lt_of_lt_of_le hl h.n0)).trans (h.ag0 l hl)⟩

theorem SatF.toAt (h : SatF C D T σ a w M ρ) (hD : ∀ l, D l ↔ l < s.n) (hT : ∀ i, T i = s.get i) (hσ : ∀ l, σ l = look s.σ l) (hlab : ∀ l x, look s.σ l = some x → l < s.n) (hn0 : C.N0 ≤ s.n) : SatAt C s a w M ρ := by
  have up : ∀ ρ' : Nat → Option Nat, (∀ l, l < s.n → ρ' l = ρ l) → ∀ l b, ρ l = some b → ρ' l = some b := by
    intro ρ' hρ l b hb
    by_cases hl : l < s.n
    · rw [hρ l hl, hb]
    · rw [h.none l (fun hd => hl ((hD l).1 hd))] at hb
      cases hb
  refine ⟨fun ρ' hρ => ⟨fun i => ?_, fun l x hx => ?_⟩, hlab, fun l l' x x' b hx hx' => h.inj l l' x x' b ((hD _).2 (hlab _ _ hx)) ((hD _).2 (hlab _ _ hx')) ((hσ _).trans hx) ((hσ _).trans hx'), h.fr, h.mlt, h.foreign,
    fun l x b hx => h.own l x b ((hD _).2 (hlab _ _ hx)) ((hσ _).trans hx), h.size,
    h.ex.step (Fr.refl _ fun _ => False) (fun _ hb => hb.elim) h.fr.size (fun b hb => .inl hb) (fun b hb => .inl hb) (fun b ⟨l, x, hx, hb⟩ => ⟨BxOK.lt (k := ⟨w, M, ρ⟩) (h.boxes l x ((hD _).2 (hlab _ _ hx)) ((hσ _).trans hx)) hb, .inl ⟨l, x, (hD _).2 (hlab _ _ hx), (hσ _).trans hx, hb⟩⟩) (fun l b y hy => ⟨(hD _).2 (hlab _ _ hy), (hσ _).trans hy⟩), hn0, h.ag0⟩
  · rw [← hT]
    exact Den.more (up ρ' hρ) _ _ (h.tmps i)
  · exact BxOK.more (up ρ' hρ) (hρ l (hlab l x hx)) (h.boxes l x ((hD _).2 (hlab _ _ hx)) ((hσ _).trans hx))

theorem evT_den (h : SatF C D T σ a w M ρ) : ∀ x, Den ⟨w, M, ρ⟩ (evT T x) (a.eval x)
  | .tmp t => h.tmps t
  | .const v => by simp [evT, Act.eval, Den]
  | .global _ => by simp [evT, Den]
  | .func f => by
    simp only [evT, Act.eval, Den]
    exact ⟨#[], #[], rfl, by simp [DenL], by simp [DenL]⟩

theorem SatF.put (h : SatF C D T σ a w M ρ) {d : Option Nat} {x : AV} {v : Value} (hd : ∀ e, d = some e → e < C.N) (hx : Den ⟨w, M, ρ⟩ x v) : SatF C D (fun i => if d = some i then x else T i) σ (a.put d v) w M ρ := by
  refine ⟨fun i => ?_, h.boxes, h.none, h.inj, h.fr, h.mlt, h.foreign, h.own, by rw [put_size]; exact h.size, by rw [put_defers]; exact h.ex, h.d0, h.ag0⟩
  rw [tmps_put _ _ _ _ (by rw [h.size]; exact hd)]
  split
  · exact hx
  · exact h.tmps i

theorem SatF.grow (h : SatF C D T σ a w M ρ) {w' : World} (hf : Fr w (fun _ => False) w') : SatF C D T σ a w' M ρ := by
  have le : KW.le ⟨w, M, ρ⟩ ⟨w', M, ρ⟩ := ⟨hf.size, fun b hb hm => ⟨hm, hf.keep b hb id⟩, hf.rows, rfl⟩
  refine ⟨fun i => Den.mono le _ _ (h.tmps i), fun l x hD hx => ?_, h.none, h.inj, ?_, ?_, h.foreign, h.own, h.size,
    h.ex.step hf (fun _ hb => hb.elim) h.fr.size (fun b hb => .inl hb) (fun b hb => .inl hb) (fun b ⟨l, x, hD, hx, hb⟩ => ⟨BxOK.lt (k := ⟨w, M, ρ⟩) (h.boxes l x hD hx) hb, .inl ⟨l, x, hD, hx, hb⟩⟩) (fun _ _ _ h => h), h.d0, h.ag0⟩
  · have hb := h.boxes l x hD hx
    exact BxOK.mono le (fun b hb' => ⟨id, hf.keep b (h.mlt _ (BxOK.lt hb hb')) id⟩) hb
  · exact h.fr.trans hf fun _ _ hh => hh.elim
  · intro b hb
    exact Nat.lt_of_lt_of_le (h.mlt b hb) hf.size

theorem SatF.alloc (h : SatF C D T σ a w M ρ) {l0 : Nat} {cs : List AV} {vs : Array Value} {ty : TypeId} (hl0 : ¬ D l0) (hσ : σ l0 = some (.cs cs))
    (h1 : ∀ v ∈ vs.toList, v.oneCell' = true) (hd : DenL ⟨w, M, ρ⟩ cs vs.toList) :
    SatF C (fun l => D l ∨ l = l0) T σ a (w.alloc (.cells vs ty (0, 0))) (fun b => M b ∨ b = w.heap.size) (fun l => if l = l0 then some w.heap.size else ρ l) := by
  have hh : ∀ b, b < w.heap.size → (w.alloc (.cells vs ty (0, 0))).heap[b]? = w.heap[b]? := fun b hb => RowKit.Below.heap_alloc w _ b hb
  have hs : (w.alloc (.cells vs ty (0, 0))).heap.size = w.heap.size + 1 := by
    show (w.heap.push _).size = _
    simp
  have hnew : (w.alloc (.cells vs ty (0, 0))).heap[w.heap.size]? = some (.cells vs ty (0, 0)) := by
    show (w.heap.push _)[w.heap.size]? = _
    simp
  have up : ∀ l b, ρ l = some b → (if l = l0 then some w.heap.size else ρ l) = some b := fun l b hb => by
    by_cases e : l = l0
    · subst e
      rw [h.none _ hl0] at hb
      cases hb
    · rw [if_neg e, hb]
  have le : KW.le ⟨w, M, ρ⟩ ⟨w.alloc (.cells vs ty (0, 0)), fun b => M b ∨ b = w.heap.size, ρ⟩ :=
    ⟨by simp only [hs]; omega, fun b hb hm => ⟨fun hm' => hm'.elim hm (by have : b < w.heap.size := hb; omega), hh b hb⟩,
      fun b c T' hc => ⟨c, by rw [hh b (Array.getElem?_eq_some_iff.1 hc).1]; exact hc, rfl⟩, rfl⟩
  have ne : ∀ {l}, D l → l ≠ l0 := fun hD e => hl0 (e ▸ hD)
  have ltb : ∀ {l x b}, D l → σ l = some x → ρ l = some b → b < w.heap.size := fun hD hx hb => h.mlt _ (BxOK.lt (k := ⟨w, M, ρ⟩) (h.boxes _ _ hD hx) hb)
  have hex : Ex C (SgF (fun l => D l ∨ l = l0) σ (fun l => if l = l0 then some w.heap.size else ρ l)) (YsF (fun l => D l ∨ l = l0) σ) (w.alloc (.cells vs ty (0, 0))) (fun b => M b ∨ b = w.heap.size) a.defers := by
    refine h.ex.step (Fr.alloc w _ fun _ => False) (fun _ hb => hb.elim) h.fr.size (fun b hb => .inl (.inl hb)) (fun b hb => hb.imp id fun e => by omega) ?_ ?_
    · rintro b ⟨l, x, hD, hx, hb⟩
      rcases hD with hD | rfl
      · simp only [if_neg (ne hD)] at hb
        exact ⟨.inl (BxOK.lt (k := ⟨w, M, ρ⟩) (h.boxes l x hD hx) hb), .inl ⟨l, x, hD, hx, hb⟩⟩
      · simp only [if_true, Option.some.injEq] at hb
        exact ⟨.inr hb.symm, .inr (by rw [hs]; omega)⟩
    · rintro l b y ⟨hD, hy⟩
      rcases hD with hD | rfl
      · exact ⟨hD, hy⟩
      · rw [hσ] at hy
        cases hy
  refine ⟨fun i => Den.more up _ _ (Den.mono le _ _ (h.tmps i)), fun l x hD hx => ?_, fun l hl => ?_, ?_, h.fr.trans (Fr.alloc w _ C.S0) (fun _ _ h => h), ?_, fun b h1 h2 => .inl (h.foreign b h1 h2), ?_, h.size, hex, fun l hl => .inl (h.d0 l hl), fun l hl => by rw [if_neg (ne (h.d0 l hl))]; exact h.ag0 l hl⟩
  · rcases hD with hD | rfl
    · refine BxOK.more up (by simp [ne hD]) (BxOK.mono le (fun b hb => ⟨.inl, hh b (ltb hD hx hb)⟩) (h.boxes l x hD hx))
    · rw [hσ] at hx
      cases hx
      refine .inr ⟨w.heap.size, vs, ty, by simp, .inr rfl, hnew, h1, ?_, ?_⟩
      · have := hd.length
        simp at this
        omega
      · have hl := hd.length
        rw [List.take_of_length_le (by omega)]
        exact DenL.more up _ _ (DenL.mono le _ _ hd)
  · rw [if_neg (fun e => hl (.inr e))]
    exact h.none l fun hd => hl (.inl hd)
  · intro l l' x x' b hD hD' hx hx' hb hb'
    rcases hD with hD | rfl
    · rw [if_neg (ne hD)] at hb
      rcases hD' with hD' | rfl
      · rw [if_neg (ne hD')] at hb'
        exact h.inj l l' x x' b hD hD' hx hx' hb hb'
      · simp at hb'
        have := ltb hD hx hb
        omega
    · simp at hb
      rcases hD' with hD' | rfl
      · rw [if_neg (ne hD')] at hb'
        have := ltb hD' hx' hb'
        omega
      · rfl
  · intro b hb
    rw [hs]
    rcases hb with hb | hb
    · have := h.mlt b hb
      omega
    · omega
  · intro l x b hD hx hb
    rcases hD with hD | rfl
    · rw [if_neg (ne hD)] at hb
      exact h.own l x b hD hx hb
    · simp at hb
      subst hb
      exact .inr h.fr.size

theorem SatF.quiet {o : Oper} {m : MO} {τ : Nat → Option Bx} {g : Operand → AV} {l0 : Nat} {r : AV} {ν : List Bx} (h : SatF C D T σ a w M ρ) (ht : trOp C.P o.op = some m) (hd : ∀ e, o.dst = some e → e < C.N)
    (hg : ∀ x ∈ m.opers, g x = evT T x) (hτ : ∀ l x, D l → τ l = some x → σ l = some x) (hl0 : ν ≠ [] → ¬ D l0) (hν : ∀ cs, ν = [.cs cs] → σ l0 = some (.cs cs))
    (hq : qv true m g τ l0 fun r' ν' => r' = r ∧ ν' = ν) (r2 : AV) (hr2 : ∀ k v, Den k r v → Den k r2 v) (Kw : Act → World → Prop) (Q : Exit → Act → World → Prop)
    (hKw : ∀ a' w' M' ρ', SatF C (fun l => D l ∨ (l0 ≤ l ∧ l < l0 + ν.length)) (fun i => if o.dst = some i then r2 else T i) σ a' w' M' ρ' → Kw a' w') : owp C o a w Kw Q := by
  obtain ⟨r', ν', ⟨rfl, rfl⟩, v, w', hrun, hres⟩ := q_all (k := ⟨w, M, ρ⟩) ht (evT_den h) (fun l x b hb hx => by
    have hD : D l := by
      refine Classical.byContradiction fun hD => ?_
      have hb' : ρ l = some b := hb
      rw [h.none l hD] at hb'
      cases hb'
    exact h.boxes l x hD (hτ l x hD hx)) rfl (qv_congr hg hq)
  unfold owp
  rw [hrun, Oper.uponIn_value]
  rcases hres with ⟨rfl, hw, hden⟩ | ⟨cs, vs, ty, rfl, hw, hone, hdl, hnew⟩
  · simp only at hw
    subst hw
    have e : (fun l => D l ∨ (l0 ≤ l ∧ l < l0 + ([] : List Bx).length)) = D := by
      funext l
      simp only [List.length_nil, Nat.add_zero, eq_iff_iff]
      exact ⟨fun h => h.elim id fun h => absurd h.2 (by omega), .inl⟩
    rw [e] at hKw
    exact hKw _ _ M ρ (SatF.put h hd (hr2 _ _ hden))
  · simp only at hw
    subst hw
    have ha := SatF.alloc (ty := ty) h (hl0 (by simp)) (hν cs rfl) hone hdl
    have e : (fun l => D l ∨ (l0 ≤ l ∧ l < l0 + [Bx.cs cs].length)) = fun l => D l ∨ l = l0 := by
      funext l
      simp only [List.length_cons, List.length_nil, eq_iff_iff]
      exact ⟨fun h => h.imp id fun h => by omega, fun h => h.imp id fun h => by omega⟩
    rw [e] at hKw
    exact hKw _ _ _ _ (SatF.put ha hd (hr2 _ _ (hnew _ rfl (by simp))))

/-- A call that reads some boxes. -/
theorem SatF.callR {f : FuncId} {π : List Nat} {as' : List AV} {σc : List (Nat × Bx)} {vs : List Value} {r : AV} (h : SatF C D T σ a w M ρ) (hl : lbs π.length as') (hnd : π.Nodup) (hπ : ∀ l ∈ π, D l)
    (hσ : ∀ l x, look σc l = some x → l < π.length ∧ lbBx π.length x ∧ σ (π.getD l 0) = some (renBx π x)) (hd : DenL ⟨w, M, ρ⟩ (rens π as') vs) (hlr : lb 0 r)
    (hF : FC C.P f π.length as' σc π.length (fun x σ' => x = r ∧ ∀ l y, look σc l = some y → look σ' l = some y)) :
    Calls C.P f vs.toArray w fun e w' => ∃ v, e = .returned v ∧ SatF C D T σ a w' M ρ ∧ Den ⟨w', M, ρ⟩ r v := by
  let ρc : Nat → Option Nat := fun l => if l < π.length then ρ (π.getD l 0) else Option.none
  have eπ : ∀ l, l < π.length → π.getD l 0 ∈ π := by
    intro l hl
    rw [List.getD_eq_getElem?_getD, List.getElem?_eq_getElem hl]
    simp
  have ec : ∀ ρ1 : Nat → Option Nat, (∀ l, l < π.length → ρ1 l = ρc l) → ∀ l, l < π.length → ρ1 l = ρ (π.getD l 0) := by
    intro ρ1 h1 l hl
    rw [h1 l hl]
    simp [ρc, hl]
  have inj' : ∀ l l', l < π.length → l' < π.length → π.getD l 0 = π.getD l' 0 → l = l' := by
    intro l l' h1 h2 e
    rw [List.getD_eq_getElem?_getD, List.getElem?_eq_getElem h1, List.getD_eq_getElem?_getD, List.getElem?_eq_getElem h2] at e
    simp only [Option.getD_some] at e
    have hp := List.pairwise_iff_getElem.1 hnd
    rcases Nat.lt_trichotomy l l' with hlt | rfl | hlt
    · exact absurd e (hp l l' h1 h2 hlt)
    · rfl
    · exact absurd e.symm (hp l' l h2 h1 hlt)
  refine (hF w M ρc vs h.mlt (fun ρ1 h1 => ⟨(DenL.ren (ec ρ1 h1) as' vs hl).2 hd, fun l x hx => ?_⟩) (fun l x hx => (hσ l x hx).1) (fun l l' x x' b hx hx' hb hb' => ?_)).mono ?_
  · obtain ⟨h3, h4, h5⟩ := hσ l x hx
    exact (BxOK.ren (ec ρ1 h1) h3 h4).2 (h.boxes _ _ (hπ _ (eπ l h3)) h5)
  · obtain ⟨h3, h4, h5⟩ := hσ l x hx
    obtain ⟨h3', h4', h5'⟩ := hσ l' x' hx'
    rw [ec ρc (fun _ _ => rfl) l h3] at hb
    rw [ec ρc (fun _ _ => rfl) l' h3'] at hb'
    exact inj' l l' h3 h3' (h.inj _ _ _ _ b (hπ _ (eπ l h3)) (hπ _ (eπ l' h3')) h5 h5' hb hb')
  · rintro e w' ⟨v, ρ'c, r', σ', he, ⟨rfl, hkeep⟩, hag, hlab, hinj, hfr, hyc, hden⟩
    have sg : ∀ b, Sg ρc σc b → ∃ l x, look σc l = some x ∧ l < π.length ∧ σ (π.getD l 0) = some (renBx π x) ∧ ρ (π.getD l 0) = some b := by
      rintro b ⟨l, x, h1, h2⟩
      obtain ⟨h3, h4, h5⟩ := hσ l x h1
      exact ⟨l, x, h1, h3, h5, by rw [← ec ρc (fun _ _ => rfl) l h3]; exact h2⟩
    have sgM : ∀ b, Sg ρc σc b → M b := by
      intro b hb
      obtain ⟨l, x, _, h3, h5, h6⟩ := sg b hb
      exact BxOK.lt (k := ⟨w, M, ρ⟩) (h.boxes _ _ (hπ _ (eπ l h3)) h5) h6
    have eS : ∀ b, Sg ρ'c σ' b ↔ Sg ρc σc b := by
      intro b
      constructor
      · rintro ⟨l, x, hx, hb⟩
        obtain ⟨h1, h2, _⟩ := hlab l x hx
        obtain ⟨y, hy⟩ := Option.isSome_iff_exists.1 (h2 h1)
        exact ⟨l, y, hy, by rw [← hag l h1]; exact hb⟩
      · rintro ⟨l, x, hx, hb⟩
        exact ⟨l, x, hkeep l x hx, by rw [hag l (hσ l x hx).1]; exact hb⟩
    have hM : (fun b => (M b ∧ ¬ Sg ρc σc b) ∨ Sg ρ'c σ' b) = M := by
      funext b
      apply propext
      constructor
      · rintro (h1 | h1)
        · exact h1.1
        · exact sgM b ((eS b).1 h1)
      · intro h1
        by_cases h2 : Sg ρc σc b
        · exact .inr ((eS b).2 h2)
        · exact .inl ⟨h1, h2⟩
    rw [hM] at hden
    have le : KW.le ⟨w, M, ρ⟩ ⟨w', M, ρ⟩ := ⟨hfr.size, fun b hb hm => ⟨hm, hfr.keep b hb fun hs => hm (sgM b hs)⟩, hfr.rows, rfl⟩
    refine ⟨v, he, ⟨fun i => Den.mono le _ _ (h.tmps i), fun l x hD hx => ?_, h.none, h.inj, ?_, fun b hb => Nat.lt_of_lt_of_le (h.mlt b hb) hfr.size, h.foreign, h.own, h.size, ?_, h.d0, h.ag0⟩, ?_⟩
    · by_cases hh : ∃ b, ρ l = some b ∧ Sg ρc σc b
      · obtain ⟨b, hb, hs⟩ := hh
        obtain ⟨l0, y, h1, h3, h5, h6⟩ := sg b hs
        obtain rfl := h.inj l _ _ _ b hD (hπ _ (eπ l0 h3)) hx h5 hb h6
        rw [h5] at hx
        cases hx
        exact (BxOK.ren (fun l hl => (hag l hl).trans (ec ρc (fun _ _ => rfl) l hl)) h3 (hσ l0 y h1).2.1).1 ((hden ρ'c fun _ _ => rfl).2 l0 y (hkeep l0 y h1))
      · have hb := h.boxes l x hD hx
        exact BxOK.mono le (fun b hb' => ⟨id, hfr.keep b (h.mlt b (BxOK.lt hb hb')) fun hs => hh ⟨b, hb', hs⟩⟩) hb
    · refine h.fr.trans hfr fun b hb hs => ?_
      obtain ⟨l, y, _, h3, h5, h6⟩ := sg b hs
      rcases h.own _ _ b (hπ _ (eπ l h3)) h5 h6 with h7 | h7
      · exact h7
      · omega
    · refine h.ex.step hfr (fun b hs => ?_) h.fr.size (fun b hb => .inl hb) (fun b hb => .inl hb) (fun b ⟨l, x, hD, hx, hb⟩ => ⟨BxOK.lt (k := ⟨w, M, ρ⟩) (h.boxes l x hD hx) hb, .inl ⟨l, x, hD, hx, hb⟩⟩) (fun _ _ _ h => h)
      obtain ⟨l, y, _, h3, h5, h6⟩ := sg b hs
      exact ⟨_, _, hπ _ (eπ l h3), h5, h6⟩
    · exact Den.agree (n := 0) (fun l hl => absurd hl (by omega)) _ _ hlr (hden ρ'c fun _ _ => rfl).1

theorem SatF.call {f : FuncId} {as : List AV} {vs : List Value} {r : AV} (h : SatF C D T σ a w M ρ) (hl : lbs 0 as) (hd : DenL ⟨w, M, ρ⟩ as vs) (hF : FP C.P f as (fun x => x = r)) :
    Calls C.P f vs.toArray w fun e w' => ∃ v, e = .returned v ∧ SatF C D T σ a w' M ρ ∧ Den ⟨w', M, ρ⟩ r v := by
  refine (hF w M ρ vs h.mlt (fun ρ' _ => ⟨DenL.agree (n := 0) (fun l hl => absurd hl (by omega)) as vs hl hd, fun l x hx => by simp [look] at hx⟩) (fun l x hx => by simp [look] at hx)
    (fun l l' x x' b hx => by simp [look] at hx)).mono ?_
  rintro e w' ⟨v, ρ', r, σ', he, ⟨rfl, rfl⟩, _, _, _, hfr, _, hden⟩
  have hS : ∀ ρ : Nat → Option Nat, ∀ b, ¬ Sg ρ [] b := fun ρ b hb => by
    obtain ⟨l, x, hx, _⟩ := hb
    simp [look] at hx
  have hM : (fun b => (M b ∧ ¬ Sg ρ [] b) ∨ Sg ρ' [] b) = M := by
    funext b
    simp [hS]
  have hS' : (Sg ρ []) = fun _ => False := by
    funext b
    simp [hS]
  rw [hM] at hden
  rw [hS'] at hfr
  exact ⟨v, he, SatF.grow h hfr, (hden ρ fun l hl => absurd hl (by omega)).1⟩
end
end Go.QL
