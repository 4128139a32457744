/- States, and what they say of a frame and a world. -/
import Derived.Test.YtfhkfahgimibaaaQuiet
import Derived.RangeFuncRecord
import Derived.TacticsIn
import Derived.OrdersIn
namespace Go.QL

/-- What a call keeps: all but the blocks that were handed to it. -/
structure Fr (w0 : World) (S : Nat → Prop) (w : World) : Prop where
  os : w.os = w0.os
  tape : w.tape = w0.tape
  output : w.output = w0.output
  size : w0.heap.size ≤ w.heap.size
  keep : ∀ b, b < w0.heap.size → ¬ S b → w.heap[b]? = w0.heap[b]?
  rows : ∀ (b : Nat) (c : Array Value) (T : TypeId), w0.heap[b]? = some (.cells c T (0, 0)) → ∃ c', w.heap[b]? = some (.cells c' T (0, 0)) ∧ c'.size = c.size
  drawn : w0.drawn ≤ w.drawn

theorem Fr.refl (w : World) (S : Nat → Prop) : Fr w S w := ⟨rfl, rfl, rfl, Nat.le_refl _, fun _ _ _ => rfl, fun _ c _ h => ⟨c, h, rfl⟩, Nat.le_refl _⟩

theorem Fr.trans {w0 w1 w2 : World} {S S1 : Nat → Prop} (h : Fr w0 S w1) (h' : Fr w1 S1 w2) (hS : ∀ b, b < w0.heap.size → S1 b → S b) : Fr w0 S w2 :=
  ⟨h'.os.trans h.os, h'.tape.trans h.tape, h'.output.trans h.output, Nat.le_trans h.size h'.size,
    fun b hb hs => (h'.keep b (Nat.lt_of_lt_of_le hb h.size) fun h1 => hs (hS b hb h1)).trans (h.keep b hb hs),
    fun b c T hc => by
      obtain ⟨c1, h1, h2⟩ := h.rows b c T hc
      obtain ⟨c2, h3, h4⟩ := h'.rows b c1 T h1
      exact ⟨c2, h3, h4.trans h2⟩, Nat.le_trans h.drawn h'.drawn⟩

theorem Fr.alloc (w : World) (o : Obj) (S : Nat → Prop) : Fr w S (w.alloc o) := by
  have hh : ∀ b, b < w.heap.size → (w.alloc o).heap[b]? = w.heap[b]? := fun b hb => RowKit.Below.heap_alloc w o b hb
  refine ⟨rfl, rfl, rfl, ?_, fun b hb _ => hh b hb, fun b c T hc => ⟨c, ?_, rfl⟩, Nat.le_refl _⟩
  · show w.heap.size ≤ (w.heap.push o).size
    simp
  · rw [hh b (Array.getElem?_eq_some_iff.1 hc).1]
    exact hc

theorem Fr.drew (w : World) (S : Nat → Prop) (n : Nat) (hn : w.drawn ≤ n) : Fr w S { w with drawn := n } := ⟨rfl, rfl, rfl, Nat.le_refl _, fun _ _ _ => rfl, fun _ c _ h => ⟨c, h, rfl⟩, hn⟩

mutual
/-- All labels are below a number. -/
def lb (n : Nat) : AV → Prop
  | .vl _ => True
  | .any => True
  | .ce => True
  | .sl es => lbEs n es
  | .dp cs => lbs n cs
  | .ptr l _ => l < n
  | .agg cs => lbs n cs
  | .tup cs => lbs n cs
  | .fn _ a b => lbs n a ∧ lbs n b
  | .osl _ l _ _ _ => l < n
  | .mp l => l < n
  | .imp _ => True
  | .gd _ x => lb n x
def lbEs (n : Nat) : List (List AV) → Prop
  | [] => True
  | e :: es => lbs n e ∧ lbEs n es
def lbs (n : Nat) : List AV → Prop
  | [] => True
  | x :: xs => lb n x ∧ lbs n xs
end

theorem lbEs_iff (n : Nat) : ∀ (es : List (List AV)), lbEs n es ↔ ∀ e ∈ es, lbs n e
  | [] => by simp [lbEs]
  | e :: es => by simp [lbEs, lbEs_iff n es]

theorem lbs_iff (n : Nat) : ∀ (xs : List AV), lbs n xs ↔ ∀ x ∈ xs, lb n x
  | [] => by simp [lbs]
  | x :: xs => by simp [lbs, lbs_iff n xs]

mutual
theorem Den.agree {w : World} {M : Nat → Prop} {ρ ρ' : Nat → Option Nat} {n : Nat} (h : ∀ l, l < n → ρ' l = ρ l) : ∀ (x : AV) (y : Value), lb n x → Den ⟨w, M, ρ⟩ x y → Den ⟨w, M, ρ'⟩ x y
  | .vl x, y, _, hd => by simpa [Den] using hd
  | .any, y, _, _ => by simp [Den]
  | .ce, y, _, hd => by simpa [Den] using hd
  | .sl es, y, hl, hd => by
    simp only [Den, lb] at hd hl ⊢
    obtain ⟨a, cap, h1, h2, h3, h4⟩ := hd
    refine ⟨a, cap, h1, h2, h3, ?_⟩
    rcases h4 with h4 | ⟨b, off, sz, h5, hb, h6, h7⟩
    · exact .inl h4
    · exact .inr ⟨b, off, sz, h5, hb, h6, DenEs.agree h es b off sz hl h7⟩
  | .dp cs, y, hl, hd => by
    simp only [Den, lb] at hd hl ⊢
    obtain ⟨b, off, h1, hb, h2, h3⟩ := hd
    exact ⟨b, off, h1, hb, h2, DenCs.agree h cs b off hl h3⟩
  | .ptr l off, y, hl, hd => by
    simp only [Den, lb] at hd hl ⊢
    rw [h l hl]
    exact hd
  | .agg cs, y, hl, hd => by
    simp only [Den, lb] at hd hl ⊢
    obtain ⟨vs, h1, h2⟩ := hd
    exact ⟨vs, h1, DenL.agree h cs _ hl h2⟩
  | .tup cs, y, hl, hd => by
    simp only [Den, lb] at hd hl ⊢
    obtain ⟨vs, h1, h2⟩ := hd
    exact ⟨vs, h1, DenL.agree h cs _ hl h2⟩
  | .fn f first caps, y, hl, hd => by
    simp only [Den, lb] at hd hl ⊢
    obtain ⟨fs, cs, h1, h2, h3⟩ := hd
    exact ⟨fs, cs, h1, DenL.agree h first _ hl.1 h2, DenL.agree h caps _ hl.2 h3⟩
  | .osl sz l off len cap, y, hl, hd => by
    simp only [Den, lb] at hd hl ⊢
    rw [h l hl]
    exact hd
  | .mp l, y, hl, hd => by
    simp only [Den, lb] at hd hl ⊢
    rw [h l hl]
    exact hd
  | .imp _, y, hl, hd => by
    simp only [Den] at hd ⊢
    exact hd
  | .gd g x, y, hl, hd => by
    simp only [Den, lb] at hd hl ⊢
    exact ⟨fun hg => Den.agree h x y hl (hd.1 hg), hd.2⟩
theorem DenEs.agree {w : World} {M : Nat → Prop} {ρ ρ' : Nat → Option Nat} {n : Nat} (h : ∀ l, l < n → ρ' l = ρ l) : ∀ (es : List (List AV)) (b off sz : Nat), lbEs n es → DenEs ⟨w, M, ρ⟩ es b off sz → DenEs ⟨w, M, ρ'⟩ es b off sz
  | [], _, _, _, _, _ => by simp [DenEs]
  | e :: es, b, off, sz, hl, hd => by
    simp only [DenEs, lbEs] at hd hl ⊢
    exact ⟨hd.1, DenCs.agree h e b off hl.1 hd.2.1, DenEs.agree h es b (off + sz) sz hl.2 hd.2.2⟩
theorem DenCs.agree {w : World} {M : Nat → Prop} {ρ ρ' : Nat → Option Nat} {n : Nat} (h : ∀ l, l < n → ρ' l = ρ l) : ∀ (cs : List AV) (b off : Nat), lbs n cs → DenCs ⟨w, M, ρ⟩ cs b off → DenCs ⟨w, M, ρ'⟩ cs b off
  | [], _, _, _, _ => by simp [DenCs]
  | x :: cs, b, off, hl, hd => by
    simp only [DenCs, lbs] at hd hl ⊢
    obtain ⟨⟨y, h1, h2, h3⟩, h4⟩ := hd
    exact ⟨⟨y, h1, h2, Den.agree h x y hl.1 h3⟩, DenCs.agree h cs b (off + 1) hl.2 h4⟩
theorem DenL.agree {w : World} {M : Nat → Prop} {ρ ρ' : Nat → Option Nat} {n : Nat} (h : ∀ l, l < n → ρ' l = ρ l) : ∀ (cs : List AV) (vs : List Value), lbs n cs → DenL ⟨w, M, ρ⟩ cs vs → DenL ⟨w, M, ρ'⟩ cs vs
  | [], [], _, _ => by simp [DenL]
  | [], _ :: _, _, hd => by simp [DenL] at hd
  | _ :: _, [], _, hd => by simp [DenL] at hd
  | x :: cs, y :: vs, hl, hd => by
    simp only [DenL, lbs] at hd hl ⊢
    exact ⟨Den.agree h x y hl.1 hd.1, DenL.agree h cs vs hl.2 hd.2⟩
end

def lbBx (n : Nat) : Bx → Prop
  | .cs c => lbs n c
  | .mp es => lbs n (es.map (·.2))
  | .yc _ _ => True

theorem BxOK.agree {w : World} {M : Nat → Prop} {ρ ρ' : Nat → Option Nat} {n : Nat} (h : ∀ l, l < n → ρ' l = ρ l) {l : Nat} {x : Bx} (hl : l < n) (hx : lbBx n x) (hd : BxOK ⟨w, M, ρ⟩ l x) : BxOK ⟨w, M, ρ'⟩ l x := by
  cases x with
  | cs c =>
    simp only [BxOK, lbBx] at hd hx ⊢
    rw [h l hl]
    rcases hd with hd | ⟨b, vs, T, h1, h2, h3, h4, h5, h6⟩
    · exact .inl hd
    · exact .inr ⟨b, vs, T, h1, h2, h3, h4, h5, DenL.agree h c _ hx h6⟩
  | mp es =>
    simp only [BxOK, lbBx] at hd hx ⊢
    rw [h l hl]
    obtain ⟨b, ents, clock, h1, h2, h3, h4, h5, h6, h7⟩ := hd
    exact ⟨b, ents, clock, h1, h2, h3, h4, h5, h6, DenL.agree h _ _ hx h7⟩
  | yc b y =>
    simp only [BxOK] at hd ⊢
    rw [h l hl]
    exact hd

theorem Fr.mono {w w' : World} {S S' : Nat → Prop} (h : Fr w S w') (hS : ∀ b, S b → S' b) : Fr w S' w' :=
  ⟨h.os, h.tape, h.output, h.size, fun b hb hs => h.keep b hb fun hh => hs (hS b hh), h.rows, h.drawn⟩

/-- What the caller of an iterator keeps between two yields: what is still to come (none: it has stopped), the world, the blocks that are the iterator's own, the blocks that may change. -/
abbrev YJ := Option (List (List AV)) → World → (Nat → Prop) → (Nat → Prop) → Prop

/-- It bears the iterator's steps. -/
def YSt (J : YJ) : Prop := ∀ y w X M w' X1 M1, J y w X M → Fr w X w' → (∀ b, X1 b → X b ∨ (w.heap.size ≤ b ∧ b < w'.heap.size)) → (∀ b, X1 b → M1 b) → (∀ b, M b → ¬ X b → M1 b) → J y w' X1 M1

/-- What stays the same for a call's whole run. -/
structure Cx where
  P : Program
  r : Option Nat
  w0 : World
  M0 : Nat → Prop
  S0 : Nat → Prop
  N : Nat
  m0 : ∀ b, M0 b → b < w0.heap.size
  N0 : Nat
  ρ0 : Nat → Option Nat
  yl : Nat
  yb : Nat
  J : YJ
  jst : YSt J

def Cx.F (C : Cx) : Fence := { Fence.wide with round := C.r }

/-- The mark of a range over a function. -/
def mark (D : Nat) : Deferred := { target := .collected D, args := #[] }

/-- What is kept beside a state: the marks, the iterator's caller, the blocks that may change. -/
def Ex (C : Cx) (ow : Nat → Prop) (ys : Nat → Nat → Option (List (List AV)) → Prop) (w : World) (M : Nat → Prop) (ds : List Deferred) : Prop :=
  (∃ X : Nat → Prop, (∀ b, ow b → X b) ∧ (∀ b, X b → M b) ∧ (∀ d ∈ ds, ∃ D, d = mark D ∧ C.w0.heap.size ≤ D ∧ w.heap[D]? = some (.deferred (some [])) ∧ X D ∧ ¬ ow D) ∧ ∀ l b y, ys l b y → l = C.yl ∧ b = C.yb ∧ C.J y w X M) ∧ (ds.Nodup ∧ (C.r ≠ none → ds = [])) ∧
    ∀ b, M b → C.M0 b ∨ C.w0.heap.size ≤ b

theorem Ex.step {C : Cx} {ow ow' : Nat → Prop} {ys ys' : Nat → Nat → Option (List (List AV)) → Prop} {w w' : World} {M M' S : Nat → Prop} {ds : List Deferred} (h : Ex C ow ys w M ds) (hf : Fr w S w') (hS : ∀ b, S b → ow b) (hz : C.w0.heap.size ≤ w.heap.size)
    (hM : ∀ b, M b → M' b ∨ S b) (hM2 : ∀ b, M' b → M b ∨ w.heap.size ≤ b) (how : ∀ b, ow' b → M' b ∧ (ow b ∨ (w.heap.size ≤ b ∧ b < w'.heap.size))) (hy : ∀ l b y, ys' l b y → ys l b y) : Ex C ow' ys' w' M' ds := by
  obtain ⟨⟨X, h1, h2, h3, h4⟩, h5, h6⟩ := h
  refine ⟨⟨fun b => (X b ∧ M' b) ∨ ow' b, fun b hb => .inr hb, fun b hb => hb.elim (·.2) fun hb => (how b hb).1, fun d hd => ?_, fun l b y hyy => ?_⟩, h5, fun b hb => ?_⟩
  · obtain ⟨D, e1, e2, e3, e4, e5⟩ := h3 d hd
    have hlt : D < w.heap.size := (Array.getElem?_eq_some_iff.1 e3).1
    refine ⟨D, e1, e2, (hf.keep D hlt fun hs => e5 (hS D hs)).trans e3, .inl ⟨e4, ?_⟩, fun ho => ?_⟩
    · rcases hM D (h2 D e4) with hm | hs
      · exact hm
      · exact absurd (hS D hs) e5
    · rcases (how D ho).2 with h7 | h7
      · exact e5 h7
      · omega
  · obtain ⟨e1, e2, e3⟩ := h4 l b y (hy l b y hyy)
    refine ⟨e1, e2, C.jst _ _ _ _ _ _ _ e3 (hf.mono fun b hs => h1 b (hS b hs)) (fun b hb => ?_) (fun b hb => hb.elim (·.2) fun hb => (how b hb).1) fun b hm hx => ?_⟩
    · rcases hb with hb | hb
      · exact .inl hb.1
      · exact (how b hb).2.imp (h1 b) id
    · rcases hM b hm with h7 | h7
      · exact h7
      · exact absurd (h1 b (hS b h7)) hx
  · rcases hM2 b hb with h7 | h7
    · exact h6 b h7
    · exact .inr (Nat.le_trans hz h7)

/-- The blocks of some boxes. -/
def Sg (ρ : Nat → Option Nat) (σ : List (Nat × Bx)) (b : Nat) : Prop := ∃ l x, look σ l = some x ∧ ρ l = some b

/-- What a state has to yield. -/
def Ys (σ : List (Nat × Bx)) (l b : Nat) (y : Option (List (List AV))) : Prop := look σ l = some (.yc b y)

structure Facts (k : KW) (a : Act) (s : St) : Prop where
  tmps : ∀ i, Den k (s.get i) (a.tmps.getD i undef)
  boxes : ∀ l x, look s.σ l = some x → BxOK k l x

/-- The state s describes the frame and the world. -/
structure SatAt (C : Cx) (s : St) (a : Act) (w : World) (M : Nat → Prop) (ρ : Nat → Option Nat) : Prop where
  facts : ∀ ρ', (∀ l, l < s.n → ρ' l = ρ l) → Facts ⟨w, M, ρ'⟩ a s
  lab : ∀ l x, look s.σ l = some x → l < s.n
  inj : ∀ l l' x x' b, look s.σ l = some x → look s.σ l' = some x' → ρ l = some b → ρ l' = some b → l = l'
  fr : Fr C.w0 C.S0 w
  mlt : ∀ b, M b → b < w.heap.size
  foreign : ∀ b, C.M0 b → ¬ C.S0 b → M b
  own : ∀ l x b, look s.σ l = some x → ρ l = some b → C.S0 b ∨ C.w0.heap.size ≤ b
  size : a.tmps.size = C.N
  ex : Ex C (Sg ρ s.σ) (Ys s.σ) w M a.defers
  n0 : C.N0 ≤ s.n
  ag0 : ∀ l, l < C.N0 → ρ l = C.ρ0 l

def Sat (C : Cx) (s : St) (a : Act) (w : World) : Prop := ∃ M ρ, SatAt C s a w M ρ

theorem ev_den {k : KW} {a : Act} {s : St} (h : Facts k a s) : ∀ x, Den k (s.ev x) (a.eval x)
  | .tmp t => h.tmps t
  | .const v => by simp [St.ev, Act.eval, Den]
  | .global _ => by simp [St.ev, Den]
  | .func f => by
    simp only [St.ev, Act.eval, Den]
    exact ⟨#[], #[], rfl, by simp [DenL], by simp [DenL]⟩

theorem get_put (s : St) (d : Option Nat) (x : AV) (i : Nat) : (s.put d x).get i = if d = some i then x else s.get i := by
  cases d with
  | none => simp [St.put]
  | some d =>
    simp only [St.put, St.get, look]
    by_cases h : i = d
    · subst h
      simp
    · simp [h, show ¬ d = i from fun e => h e.symm]

theorem put_σ (s : St) (d : Option Nat) (x : AV) : (s.put d x).σ = s.σ ∧ (s.put d x).n = s.n := by
  cases d <;> exact ⟨rfl, rfl⟩

theorem tmps_put (a : Act) (d : Option Nat) (v : Value) (i : Nat) (hd : ∀ e, d = some e → e < a.tmps.size) : (a.put d v).tmps.getD i undef = if d = some i then v else a.tmps.getD i undef := by
  cases d with
  | none => simp [Act.put]
  | some d =>
    have := hd d rfl
    simp only [Act.put, Array.getD_eq_getD_getElem?, Array.getElem?_setIfInBounds]
    by_cases h : d = i
    · subst h
      simp [this]
    · simp [h]

theorem put_size (a : Act) (d : Option Nat) (v : Value) : (a.put d v).tmps.size = a.tmps.size := by
  cases d <;> simp [Act.put]

theorem put_defers (a : Act) (d : Option Nat) (v : Value) : (a.put d v).defers = a.defers := by
  cases d <;> rfl

/-- A value goes into a temporary. -/
theorem SatAt.put {C : Cx} {s : St} {a : Act} {w : World} {M : Nat → Prop} {ρ : Nat → Option Nat} (h : SatAt C s a w M ρ) {d : Option Nat} {x : AV} {v : Value}
    (hd : ∀ e, d = some e → e < C.N) (hx : ∀ ρ', (∀ l, l < s.n → ρ' l = ρ l) → Den ⟨w, M, ρ'⟩ x v) : SatAt C (s.put d x) (a.put d v) w M ρ := by
  obtain ⟨e1, e2⟩ := put_σ s d x
  refine ⟨fun ρ' hρ => ⟨fun i => ?_, fun l y hy => ?_⟩, ?_, ?_, h.fr, h.mlt, h.foreign, ?_, by rw [put_size]; exact h.size, by rw [put_defers, e1]; exact h.ex, by rw [e2]; exact h.n0, h.ag0⟩
  · rw [e2] at hρ
    rw [get_put, tmps_put _ _ _ _ (by rw [h.size]; exact hd)]
    split
    · exact hx ρ' hρ
    · exact (h.facts ρ' hρ).tmps i
  · rw [e2] at hρ
    rw [e1] at hy
    exact (h.facts ρ' hρ).boxes l y hy
  · rw [e1, e2]
    exact h.lab
  · rw [e1]
    exact h.inj
  · rw [e1]
    exact h.own

theorem BxOK.mono {k k' : KW} (h : k.le k') {l : Nat} {x : Bx} (hk : ∀ b, k.ρ l = some b → (k.M b → k'.M b) ∧ k'.w.heap[b]? = k.w.heap[b]?) (hd : BxOK k l x) : BxOK k' l x := by
  cases x with
  | cs c =>
    simp only [BxOK, h.ρ] at hd ⊢
    rcases hd with hd | ⟨b, vs, T, h1, h2, h3, h4, h5, h6⟩
    · exact .inl hd
    · obtain ⟨hm, hh⟩ := hk b h1
      exact .inr ⟨b, vs, T, h1, hm h2, by rw [hh]; exact h3, h4, h5, DenL.mono h c _ h6⟩
  | mp es =>
    simp only [BxOK, h.ρ] at hd ⊢
    obtain ⟨b, ents, clock, h1, h2, h3, h4, h5, h6, h7⟩ := hd
    obtain ⟨hm, hh⟩ := hk b h1
    exact ⟨b, ents, clock, h1, hm h2, by rw [hh]; exact h3, h4, h5, h6, DenL.mono h _ _ h7⟩
  | yc b y =>
    simp only [BxOK, h.ρ] at hd ⊢
    exact hd

theorem BxOK.lt {k : KW} {l b : Nat} {x : Bx} (h : BxOK k l x) (hb : k.ρ l = some b) : k.M b := by
  cases x with
  | cs c =>
    simp only [BxOK] at h
    rcases h with ⟨_, h0⟩ | ⟨b', _, _, h2, h3, _⟩
    · rw [hb] at h0
      cases h0
    · rw [hb] at h2
      cases h2
      exact h3
  | mp es =>
    simp only [BxOK] at h
    obtain ⟨b', _, _, h2, h3, _⟩ := h
    rw [hb] at h2
    cases h2
    exact h3
  | yc b y =>
    simp only [BxOK] at h
    rw [hb] at h
    cases h

theorem SatAt.mut {C : Cx} {s : St} {a : Act} {w : World} {M : Nat → Prop} {ρ : Nat → Option Nat} (h : SatAt C s a w M ρ) {l b : Nat} {x : Bx} (hl : look s.σ l = some x) (hb : ρ l = some b) : M b :=
  BxOK.lt (k := ⟨w, M, ρ⟩) ((h.facts ρ fun _ _ => rfl).boxes l x hl) hb

/-- The world has a new block, which gets the next label. -/
theorem SatAt.freshBx {C : Cx} {s : St} {a : Act} {w w' : World} {M : Nat → Prop} {ρ : Nat → Option Nat} (h : SatAt C s a w M ρ) {x0 : Bx} {g : Nat}
    (hfr : Fr w (fun _ => False) w') (hg : w.heap.size ≤ g) (hgl : g < w'.heap.size) (hny : ∀ b y, x0 ≠ .yc b y)
    (hx0 : ∀ ρ', (∀ l, l < s.n + 1 → ρ' l = if l = s.n then some g else ρ l) → BxOK ⟨w', fun b => M b ∨ b = g, ρ'⟩ s.n x0) :
    SatAt C (s.new [x0]) a w' (fun b => M b ∨ b = g) (fun l => if l = s.n then some g else ρ l) := by
  have hh : ∀ b, b < w.heap.size → w'.heap[b]? = w.heap[b]? := fun b hb => hfr.keep b hb id
  have old : ∀ ρ' : Nat → Option Nat, (∀ l, l < s.n + 1 → ρ' l = if l = s.n then some g else ρ l) → ∀ l, l < s.n → ρ' l = ρ l := fun ρ' hρ l hl => by
    rw [hρ l (by omega), if_neg (by omega)]
  have le : ∀ ρ', KW.le ⟨w, M, ρ'⟩ ⟨w', fun b => M b ∨ b = g, ρ'⟩ := fun ρ' =>
    ⟨hfr.size, fun b hb hm => ⟨fun hm' => hm'.elim hm (by have : b < w.heap.size := hb; omega), hh b hb⟩, hfr.rows, rfl⟩
  have hex : Ex C (Sg (fun l => if l = s.n then some g else ρ l) (s.new [x0]).σ) (Ys (s.new [x0]).σ) w' (fun b => M b ∨ b = g) a.defers := by
    refine h.ex.step hfr (fun _ hb => hb.elim) h.fr.size (fun b hb => .inl (.inl hb)) (fun b hb => by rcases hb with hb | rfl; exact .inl hb; exact .inr hg) ?_ ?_
    · rintro b ⟨l, y, hy, hb⟩
      simp only [St.new, look] at hy
      split at hy
      · rename_i hl
        simp only [hl, if_true, Option.some.injEq] at hb
        subst hb
        exact ⟨.inr rfl, .inr ⟨hg, hgl⟩⟩
      · rename_i hl
        simp only [if_neg hl] at hb
        exact ⟨.inl (BxOK.lt (k := ⟨w, M, ρ⟩) ((h.facts ρ fun _ _ => rfl).boxes l y hy) hb), .inl ⟨l, y, hy, hb⟩⟩
    · intro l b y hy
      simp only [Ys, St.new, look] at hy ⊢
      split at hy
      · exact absurd (Option.some.inj hy) (hny _ _)
      · exact hy
  refine ⟨fun ρ' hρ => ⟨fun i => ?_, fun l y hy => ?_⟩, ?_, ?_, ?_, ?_, ?_, ?_, h.size, hex, Nat.le_trans h.n0 (Nat.le_succ _), fun l hl => by have := h.n0; rw [if_neg (by omega)]; exact h.ag0 l hl⟩
  · exact Den.mono (le ρ') _ _ ((h.facts ρ' (old ρ' hρ)).tmps i)
  · simp only [St.new, look] at hy
    split at hy
    · rename_i hl
      subst hl
      simp only [Option.some.injEq] at hy
      subst hy
      exact hx0 ρ' hρ
    · have hlt := h.lab l y hy
      refine BxOK.mono (le ρ') (fun b hb => ⟨.inl, ?_⟩) ((h.facts ρ' (old ρ' hρ)).boxes l y hy)
      have hb' : b < w.heap.size := h.mlt _ (BxOK.lt ((h.facts ρ' (old ρ' hρ)).boxes l y hy) hb)
      exact hh b hb'
  · intro l y hy
    simp only [St.new, look] at hy ⊢
    split at hy
    · omega
    · have := h.lab l y hy
      omega
  · intro l l' x x' b hx hx' hb hb'
    simp only [St.new, look] at hx hx'
    by_cases h1 : l = s.n
    · by_cases h2 : l' = s.n
      · omega
      · simp [h1] at hb
        simp [h2] at hb' hx'
        have := h.mlt _ (h.mut hx' hb')
        omega
    · by_cases h2 : l' = s.n
      · simp [h2] at hb'
        simp [h1] at hb hx
        have := h.mlt _ (h.mut hx hb)
        omega
      · simp [h1] at hb hx
        simp [h2] at hb' hx'
        exact h.inj l l' x x' b hx hx' hb hb'
  · exact h.fr.trans hfr (fun _ _ h => h.elim)
  · intro b hb
    rcases hb with hb | hb
    · exact Nat.lt_of_lt_of_le (h.mlt b hb) hfr.size
    · subst hb
      exact hgl
  · exact fun b h1 h2 => .inl (h.foreign b h1 h2)
  · intro l y b hy hb
    simp only [St.new, look] at hy hb
    split at hy
    · rename_i hl
      simp [hl] at hb
      subst hb
      exact .inr (Nat.le_trans h.fr.size hg)
    · rename_i hl
      simp [hl] at hb
      exact h.own l y b hy hb

/-- The world has a new block of cells, which gets the next label. -/
theorem SatAt.fresh {C : Cx} {s : St} {a : Act} {w w' : World} {M : Nat → Prop} {ρ : Nat → Option Nat} (h : SatAt C s a w M ρ) {cs : List AV} {vs : Array Value} {T : TypeId} {g : Nat}
    (hfr : Fr w (fun _ => False) w') (hg : w.heap.size ≤ g) (hnew : w'.heap[g]? = some (.cells vs T (0, 0)))
    (h1 : ∀ v ∈ vs.toList, v.oneCell' = true) (hlen : cs.length ≤ vs.size) (hd : ∀ ρ', (∀ l, l < s.n → ρ' l = ρ l) → DenL ⟨w, M, ρ'⟩ cs (vs.toList.take cs.length)) :
    SatAt C (s.new [.cs cs]) a w' (fun b => M b ∨ b = g) (fun l => if l = s.n then some g else ρ l) := by
  refine h.freshBx hfr hg (Array.getElem?_eq_some_iff.1 hnew).1 (fun b y => by simp) fun ρ' hρ => ?_
  have old : ∀ l, l < s.n → ρ' l = ρ l := fun l hl => by
    rw [hρ l (by omega), if_neg (by omega)]
  have le : KW.le ⟨w, M, ρ'⟩ ⟨w', fun b => M b ∨ b = g, ρ'⟩ :=
    ⟨hfr.size, fun b hb hm => ⟨fun hm' => hm'.elim hm (by have : b < w.heap.size := hb; omega), hfr.keep b hb id⟩, hfr.rows, rfl⟩
  refine .inr ⟨g, vs, T, ?_, .inr rfl, hnew, h1, hlen, DenL.mono le _ _ (hd ρ' old)⟩
  exact (hρ s.n (by omega)).trans (by simp)

/-- A new block of cells, with the next label. -/
theorem SatAt.alloc {C : Cx} {s : St} {a : Act} {w : World} {M : Nat → Prop} {ρ : Nat → Option Nat} (h : SatAt C s a w M ρ) {cs : List AV} {vs : Array Value} {T : TypeId}
    (h1 : ∀ v ∈ vs.toList, v.oneCell' = true) (hd : ∀ ρ', (∀ l, l < s.n → ρ' l = ρ l) → DenL ⟨w, M, ρ'⟩ cs vs.toList) :
    SatAt C (s.new [.cs cs]) a (w.alloc (.cells vs T (0, 0))) (fun b => M b ∨ b = w.heap.size) (fun l => if l = s.n then some w.heap.size else ρ l) := by
  have hl := (hd ρ fun _ _ => rfl).length
  refine h.fresh (T := T) (Fr.alloc w _ _) (Nat.le_refl _) ?_ h1 (by simp at hl; omega) fun ρ' hρ => ?_
  · show (w.heap.push _)[w.heap.size]? = _
    simp
  · rw [List.take_of_length_le (by omega)]
    exact hd ρ' hρ

def eras {α : Type} : List (Nat × α) → Nat → List (Nat × α)
  | [], _ => []
  | (j, x) :: r, i => if i = j then eras r i else (j, x) :: eras r i

theorem look_eras {α : Type} (l : Nat) : ∀ (σ : List (Nat × α)) (i : Nat), look (eras σ l) i = if i = l then none else look σ i
  | [], i => by simp [eras, look]
  | (j, x) :: r, i => by
    by_cases h : l = j
    · subst h
      simp only [eras, if_true, look_eras l r i, look]
      by_cases hi : i = l <;> simp [hi]
    · simp only [eras, if_neg h, look, look_eras l r i]
      by_cases hi : i = j
      · subst hi
        simp [show ¬ i = l from fun e => h e.symm]
      · simp [hi]

/-- A box gets a new label. -/
def St.move (s : St) (l : Nat) (x : Bx) : St := { s with σ := (s.n, x) :: eras s.σ l, n := s.n + 1 }

theorem SatAt.drop {C : Cx} {s : St} {a : Act} {w : World} {M : Nat → Prop} {ρ : Nat → Option Nat} (h : SatAt C s a w M ρ) {σ' : List (Nat × Bx)} (hσ : ∀ l x, look σ' l = some x → look s.σ l = some x) :
    SatAt C { s with σ := σ' } a w M ρ :=
  ⟨fun ρ' hρ => ⟨(h.facts ρ' hρ).tmps, fun l x hx => (h.facts ρ' hρ).boxes l x (hσ l x hx)⟩, fun l x hx => h.lab l x (hσ l x hx), fun l l' x x' b hx hx' => h.inj l l' x x' b (hσ _ _ hx) (hσ _ _ hx'),
    h.fr, h.mlt, h.foreign, fun l x b hx => h.own l x b (hσ _ _ hx), h.size,
    h.ex.step (Fr.refl _ fun _ => False) (fun _ hb => hb.elim) h.fr.size (fun b hb => .inl hb) (fun b hb => .inl hb) (fun b ⟨l, x, hx, hb⟩ => ⟨BxOK.lt (k := ⟨w, M, ρ⟩) ((h.facts ρ fun _ _ => rfl).boxes l x (hσ l x hx)) hb, .inl ⟨l, x, hσ l x hx, hb⟩⟩) fun l b y hy => hσ l _ hy,
    h.n0, h.ag0⟩

/-- The new label of a box that stays where it is. -/
theorem SatAt.relabel {C : Cx} {s : St} {a : Act} {w : World} {M : Nat → Prop} {ρ : Nat → Option Nat} (h : SatAt C s a w M ρ) {l : Nat} {x : Bx} (hl : look s.σ l = some x) (hx : ∀ b y, x ≠ .yc b y) :
    SatAt C (s.move l x) a w M (fun i => if i = s.n then ρ l else ρ i) := by
  have hlt := h.lab l x hl
  have old : ∀ ρ' : Nat → Option Nat, (∀ i, i < s.n + 1 → ρ' i = if i = s.n then ρ l else ρ i) → ∀ i, i < s.n → ρ' i = ρ i := fun ρ' hρ i hi => by
    rw [hρ i (by omega), if_neg (by omega)]
  have back : ∀ {i y}, look (s.move l x).σ i = some y → (i = s.n ∧ y = x) ∨ (i ≠ s.n ∧ i ≠ l ∧ look s.σ i = some y) := by
    intro i y hy
    simp only [St.move, look, look_eras] at hy
    split at hy
    · rename_i e
      exact .inl ⟨e, by simpa using hy.symm⟩
    · rename_i e
      split at hy
      · cases hy
      · rename_i e2
        exact .inr ⟨e, e2, hy⟩
  have hex : Ex C (Sg (fun i => if i = s.n then ρ l else ρ i) (s.move l x).σ) (Ys (s.move l x).σ) w M a.defers := by
    refine h.ex.step (Fr.refl _ fun _ => False) (fun _ hb => hb.elim) h.fr.size (fun b hb => .inl hb) (fun b hb => .inl hb) ?_ ?_
    · rintro b ⟨i, y, hy, hb⟩
      simp only at hb
      rcases back hy with ⟨rfl, rfl⟩ | ⟨h1, _, hy⟩
      · rw [if_pos rfl] at hb
        exact ⟨BxOK.lt (k := ⟨w, M, ρ⟩) ((h.facts ρ fun _ _ => rfl).boxes l _ hl) hb, .inl ⟨l, _, hl, hb⟩⟩
      · rw [if_neg h1] at hb
        exact ⟨BxOK.lt (k := ⟨w, M, ρ⟩) ((h.facts ρ fun _ _ => rfl).boxes i y hy) hb, .inl ⟨i, y, hy, hb⟩⟩
    · intro i b y hy
      rcases back hy with ⟨rfl, rfl⟩ | ⟨_, _, hy⟩
      · exact absurd rfl (hx b y)
      · exact hy
  refine ⟨fun ρ' hρ => ⟨(h.facts ρ' (old ρ' hρ)).tmps, fun i y hy => ?_⟩, ?_, ?_, h.fr, h.mlt, h.foreign, ?_, h.size, hex, Nat.le_trans h.n0 (Nat.le_succ _), fun l hl => by have := h.n0; rw [if_neg (by omega)]; exact h.ag0 l hl⟩
  · have e : ρ' s.n = ρ' l := by rw [hρ s.n (by simp [St.move]), if_pos rfl, old ρ' hρ l hlt]
    rcases back hy with ⟨rfl, rfl⟩ | ⟨_, _, hy⟩
    · have := (h.facts ρ' (old ρ' hρ)).boxes l y hl
      cases y with
      | cs c => simpa only [BxOK, e] using this
      | mp es => simpa only [BxOK, e] using this
      | yc b y => exact absurd rfl (hx b y)
    · exact (h.facts ρ' (old ρ' hρ)).boxes i y hy
  · intro i y hy
    rcases back hy with ⟨rfl, rfl⟩ | ⟨_, _, hy⟩
    · simp [St.move]
    · have := h.lab i y hy
      simp only [St.move]
      omega
  · intro i i' y y' b hy hy' hb hb'
    rcases back hy with ⟨e1, e2⟩ | ⟨h1, h2, hz⟩
    · rcases back hy' with ⟨e3, e4⟩ | ⟨h3, h4, hz'⟩
      · rw [e1, e3]
      · rw [if_pos e1] at hb
        rw [if_neg h3] at hb'
        exact absurd (h.inj _ _ _ _ b hl hz' hb hb').symm h4
    · rw [if_neg h1] at hb
      rcases back hy' with ⟨e3, e4⟩ | ⟨h3, h4, hz'⟩
      · rw [if_pos e3] at hb'
        exact absurd (h.inj _ _ _ _ b hz hl hb hb') h2
      · rw [if_neg h3] at hb'
        exact h.inj _ _ _ _ b hz hz' hb hb'
  · intro i y b hy hb
    rcases back hy with ⟨rfl, rfl⟩ | ⟨h1, h2, hy⟩
    · rw [if_pos rfl] at hb
      exact h.own l _ b hl hb
    · rw [if_neg h1] at hb
      exact h.own i y b hy hb

/-- A label of no block, for an empty row. -/
theorem SatAt.freshNil {C : Cx} {s : St} {a : Act} {w : World} {M : Nat → Prop} {ρ : Nat → Option Nat} (h : SatAt C s a w M ρ) :
    SatAt C (s.new [.cs []]) a w M (fun l => if l = s.n then none else ρ l) := by
  have old : ∀ ρ' : Nat → Option Nat, (∀ i, i < s.n + 1 → ρ' i = if i = s.n then none else ρ i) → ∀ i, i < s.n → ρ' i = ρ i := fun ρ' hρ i hi => by
    rw [hρ i (by omega), if_neg (by omega)]
  have back : ∀ {i y}, look (s.new [.cs []]).σ i = some y → (i = s.n ∧ y = .cs []) ∨ (i ≠ s.n ∧ look s.σ i = some y) := by
    intro i y hy
    simp only [St.new, look] at hy
    split at hy
    · rename_i e
      exact .inl ⟨e, by simpa using hy.symm⟩
    · rename_i e
      exact .inr ⟨e, hy⟩
  have hex : Ex C (Sg (fun l => if l = s.n then none else ρ l) (s.new [.cs []]).σ) (Ys (s.new [.cs []]).σ) w M a.defers := by
    refine h.ex.step (Fr.refl _ fun _ => False) (fun _ hb => hb.elim) h.fr.size (fun b hb => .inl hb) (fun b hb => .inl hb) ?_ ?_
    · rintro b ⟨i, y, hy, hb⟩
      simp only at hb
      rcases back hy with ⟨rfl, rfl⟩ | ⟨h1, hy⟩
      · simp at hb
      · rw [if_neg h1] at hb
        exact ⟨BxOK.lt (k := ⟨w, M, ρ⟩) ((h.facts ρ fun _ _ => rfl).boxes i y hy) hb, .inl ⟨i, y, hy, hb⟩⟩
    · intro i b y hy
      rcases back hy with ⟨_, h2⟩ | ⟨_, hy⟩
      · cases h2
      · exact hy
  refine ⟨fun ρ' hρ => ⟨(h.facts ρ' (old ρ' hρ)).tmps, fun i y hy => ?_⟩, ?_, ?_, h.fr, h.mlt, h.foreign, ?_, h.size, hex, Nat.le_trans h.n0 (Nat.le_succ _), fun l hl => by have := h.n0; rw [if_neg (by omega)]; exact h.ag0 l hl⟩
  · rcases back hy with ⟨rfl, rfl⟩ | ⟨_, hy⟩
    · exact .inl ⟨rfl, by show ρ' s.n = none; rw [hρ s.n (by simp [St.new]), if_pos rfl]⟩
    · exact (h.facts ρ' (old ρ' hρ)).boxes i y hy
  · intro i y hy
    rcases back hy with ⟨rfl, rfl⟩ | ⟨_, hy⟩
    · simp [St.new]
    · have := h.lab i y hy
      simp only [St.new]
      omega
  · intro i i' y y' b hy hy' hb hb'
    rcases back hy with ⟨rfl, rfl⟩ | ⟨h1, hy⟩
    · simp at hb
    · rcases back hy' with ⟨rfl, rfl⟩ | ⟨h3, hy'⟩
      · simp at hb'
      · rw [if_neg h1] at hb
        rw [if_neg h3] at hb'
        exact h.inj _ _ _ _ b hy hy' hb hb'
  · intro i y b hy hb
    rcases back hy with ⟨rfl, rfl⟩ | ⟨h1, hy⟩
    · simp at hb
    · rw [if_neg h1] at hb
      exact h.own i y b hy hb
end Go.QL
