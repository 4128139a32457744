/- The abstract values of this claim and what they say of the model's memory. -/
import Derived.WalkKit
import Derived.Deep.MidRow
import Derived.Orders
namespace Go.QL

/-- A description of a Go value. -/
inductive AV where
  | vl (x : Value)
  | any
  | ce
  | sl (es : List (List AV))
  | dp (cs : List AV)
  | ptr (l off : Nat)
  | agg (cs : List AV)
  | tup (vs : List AV)
  | fn (f : Fn) (first caps : List AV)
  | osl (sz l off len cap : Nat)
  | mp (l : Nat)
  | imp (es : List (Value × Value))
  | gd (g : Bool) (x : AV)
  deriving Inhabited

/-- A world, the blocks that may still change, and where the labels lie. -/
structure KW where
  w : World
  M : Nat → Prop
  ρ : Nat → Option Nat

mutual
def Den (k : KW) : AV → Value → Prop
  | .vl x, y => y = x
  | .any, _ => True
  | .ce, y => y.oneCell' = true
  | .sl es, y => ∃ a cap, y = .slice a es.length cap ∧ es.length ≤ cap ∧ cap ≤ maxLen ∧ (es = [] ∨ ∃ b off sz, a = some ⟨b, off, none⟩ ∧ b < k.w.heap.size ∧ ¬ k.M b ∧ DenEs k es b off sz)
  | .dp cs, y => ∃ b off, y = .pointer (some ⟨b, off, none⟩) ∧ b < k.w.heap.size ∧ ¬ k.M b ∧ DenCs k cs b off
  | .ptr l off, y => ∃ b, k.ρ l = some b ∧ y = .pointer (some ⟨b, off, none⟩)
  | .agg cs, y => ∃ vs, y = .agg vs ∧ DenL k cs vs.toList
  | .tup cs, y => ∃ vs, y = .tuple vs ∧ DenL k cs vs.toList
  | .fn f first caps, y => ∃ fs cs, y = .func f fs cs ∧ DenL k first fs.toList ∧ DenL k caps cs.toList
  | .osl sz l off len cap, y => ∃ a cap', y = .slice a len cap' ∧ cap ≤ cap' ∧ len ≤ cap' ∧ cap' ≤ maxLen ∧
      (cap' = 0 ∨ ∃ b vs T, k.ρ l = some b ∧ a = some ⟨b, off, none⟩ ∧ k.w.heap[b]? = some (.cells vs T (0, 0)) ∧ off + cap' * sz ≤ vs.size)
  | .mp l, y => ∃ b, k.ρ l = some b ∧ y = .map (some b)
  | .imp es, y => ∃ b ents clock, y = .map (some b) ∧ b < k.w.heap.size ∧ ¬ k.M b ∧ k.w.heap[b]? = some (.map ents clock) ∧ ents.toList.map (·.key) = es.map (·.1) ∧ ents.toList.map (·.val) = es.map (·.2)
  | .gd g x, y => (g = true → Den k x y) ∧ (g = false → y = undef)
def DenEs (k : KW) : List (List AV) → Nat → Nat → Nat → Prop
  | [], _, _, _ => True
  | e :: es, b, off, sz => e.length = sz ∧ DenCs k e b off ∧ DenEs k es b (off + sz) sz
def DenCs (k : KW) : List AV → Nat → Nat → Prop
  | [], _, _ => True
  | x :: cs, b, off => (∃ y, k.w.cell? ⟨b, off, none⟩ = some y ∧ y.oneCell' = true ∧ Den k x y) ∧ DenCs k cs b (off + 1)
def DenL (k : KW) : List AV → List Value → Prop
  | [], [] => True
  | x :: cs, y :: ys => Den k x y ∧ DenL k cs ys
  | [], _ :: _ => False
  | _ :: _, [] => False
end

theorem DenL.length {k : KW} : ∀ {cs : List AV} {vs : List Value}, DenL k cs vs → cs.length = vs.length
  | [], [], _ => rfl
  | [], _ :: _, h => by simp [DenL] at h
  | _ :: _, [], h => by simp [DenL] at h
  | _ :: cs, _ :: vs, h => by
    simp only [DenL] at h
    simp [DenL.length h.2]

theorem DenL.get {k : KW} : ∀ {cs : List AV} {vs : List Value}, DenL k cs vs → ∀ {i : Nat} {x : AV}, cs[i]? = some x → ∃ y, vs[i]? = some y ∧ Den k x y
  | [], [], _, i, x, hi => by simp at hi
  | [], _ :: _, h, _, _, _ => by simp [DenL] at h
  | _ :: _, [], h, _, _, _ => by simp [DenL] at h
  | z :: cs, y :: vs, h, i, x, hi => by
    simp only [DenL] at h
    cases i with
    | zero =>
      simp at hi
      subst hi
      exact ⟨y, rfl, h.1⟩
    | succ i => simpa using DenL.get h.2 (i := i) (by simpa using hi)

theorem DenL.of_get {k : KW} : ∀ {cs : List AV} {vs : List Value}, cs.length = vs.length → (∀ (i : Nat) (x : AV) (y : Value), cs[i]? = some x → vs[i]? = some y → Den k x y) → DenL k cs vs
  | [], [], _, _ => by simp [DenL]
  | [], _ :: _, h, _ => by simp at h
  | _ :: _, [], h, _ => by simp at h
  | z :: cs, y :: vs, h, hi => by
    simp only [DenL]
    exact ⟨hi 0 z y rfl rfl, DenL.of_get (by simpa using h) fun i x y hx hy => hi (i + 1) x y (by simpa using hx) (by simpa using hy)⟩

theorem DenL.append {k : KW} : ∀ {cs cs' : List AV} {vs vs' : List Value}, DenL k cs vs → DenL k cs' vs' → DenL k (cs ++ cs') (vs ++ vs')
  | [], _, [], _, _, h' => by simpa using h'
  | [], _, _ :: _, _, h, _ => by simp [DenL] at h
  | _ :: _, _, [], _, h, _ => by simp [DenL] at h
  | z :: cs, cs', y :: vs, vs', h, h' => by
    simp only [DenL, List.cons_append] at h ⊢
    exact ⟨h.1, DenL.append h.2 h'⟩

theorem DenL.take {k : KW} : ∀ {cs : List AV} {vs : List Value} (n : Nat), DenL k cs vs → DenL k (cs.take n) (vs.take n)
  | [], [], n, _ => by simp [DenL]
  | [], _ :: _, _, h => by simp [DenL] at h
  | _ :: _, [], _, h => by simp [DenL] at h
  | z :: cs, y :: vs, 0, h => by simp [DenL]
  | z :: cs, y :: vs, n + 1, h => by
    simp only [DenL, List.take_succ_cons] at h ⊢
    exact ⟨h.1, DenL.take n h.2⟩

theorem DenL.drop {k : KW} : ∀ {cs : List AV} {vs : List Value} (n : Nat), DenL k cs vs → DenL k (cs.drop n) (vs.drop n)
  | [], [], n, _ => by simp [DenL]
  | [], _ :: _, _, h => by simp [DenL] at h
  | _ :: _, [], _, h => by simp [DenL] at h
  | z :: cs, y :: vs, 0, h => by simpa using h
  | z :: cs, y :: vs, n + 1, h => by
    simp only [DenL, List.drop_succ_cons] at h ⊢
    exact DenL.drop n h.2

theorem DenCs.get {k : KW} {b : Nat} : ∀ {cs : List AV} {off : Nat}, DenCs k cs b off → ∀ {i : Nat} {x : AV}, cs[i]? = some x → ∃ y, k.w.cell? ⟨b, off + i, none⟩ = some y ∧ y.oneCell' = true ∧ Den k x y
  | [], _, _, i, x, hi => by simp at hi
  | z :: cs, off, h, i, x, hi => by
    simp only [DenCs] at h
    cases i with
    | zero =>
      simp at hi
      subst hi
      exact h.1
    | succ i =>
      have := DenCs.get h.2 (i := i) (by simpa using hi)
      rwa [show off + 1 + i = off + (i + 1) from by omega] at this

theorem DenCs.drop {k : KW} {b : Nat} : ∀ {cs : List AV} {off : Nat} (n : Nat), n ≤ cs.length → DenCs k cs b off → DenCs k (cs.drop n) b (off + n)
  | [], off, n, hn, h => by simp [DenCs]
  | z :: cs, off, 0, _, h => by simpa using h
  | z :: cs, off, n + 1, hn, h => by
    simp only [DenCs, List.drop_succ_cons] at h ⊢
    have := DenCs.drop n (by simpa using hn) h.2
    rwa [show off + 1 + n = off + (n + 1) from by omega] at this

theorem DenCs.take {k : KW} {b : Nat} : ∀ {cs : List AV} {off : Nat} (n : Nat), DenCs k cs b off → DenCs k (cs.take n) b off
  | [], off, n, h => by simp [DenCs]
  | z :: cs, off, 0, _ => by simp [DenCs]
  | z :: cs, off, n + 1, h => by
    simp only [DenCs, List.take_succ_cons] at h ⊢
    exact ⟨h.1, DenCs.take n h.2⟩

theorem DenCs.of_get {k : KW} {b : Nat} : ∀ {cs : List AV} {off : Nat}, (∀ (i : Nat) (x : AV), cs[i]? = some x → ∃ y, k.w.cell? ⟨b, off + i, none⟩ = some y ∧ y.oneCell' = true ∧ Den k x y) → DenCs k cs b off
  | [], _, _ => by simp [DenCs]
  | z :: cs, off, h => by
    simp only [DenCs]
    refine ⟨by simpa using h 0 z rfl, DenCs.of_get fun i x hx => ?_⟩
    have := h (i + 1) x (by simpa using hx)
    rwa [show off + (i + 1) = off + 1 + i from by omega] at this

/-- The cells that a described run of cells holds. -/
theorem DenCs.vals {k : KW} {b : Nat} : ∀ {cs : List AV} {off : Nat}, DenCs k cs b off → ∃ vs : List Value, DenL k cs vs ∧ (∀ v ∈ vs, v.oneCell' = true) ∧ k.w.rangeAt b off vs
  | [], _, _ => ⟨[], by simp [DenL], by simp, fun j v h => by simp at h⟩
  | z :: cs, off, h => by
    simp only [DenCs] at h
    obtain ⟨⟨y, hy, h1, hd⟩, hr⟩ := h
    obtain ⟨vs, hv, h2, hr'⟩ := DenCs.vals hr
    refine ⟨y :: vs, by simp only [DenL]; exact ⟨hd, hv⟩, by simpa using ⟨h1, h2⟩, fun j v hj => ?_⟩
    cases j with
    | zero =>
      simp at hj
      subst hj
      simpa using hy
    | succ j =>
      have := hr' j v (by simpa using hj)
      rwa [show off + 1 + j = off + (j + 1) from by omega] at this

theorem DenEs.get {k : KW} {b sz : Nat} : ∀ {es : List (List AV)} {off : Nat}, DenEs k es b off sz → ∀ {i : Nat} {e : List AV}, es[i]? = some e → e.length = sz ∧ DenCs k e b (off + i * sz)
  | [], _, _, i, e, hi => by simp at hi
  | z :: es, off, h, i, e, hi => by
    simp only [DenEs] at h
    cases i with
    | zero =>
      simp at hi
      subst hi
      simpa using ⟨h.1, h.2.1⟩
    | succ i =>
      have := DenEs.get h.2.2 (i := i) (by simpa using hi)
      rwa [show off + sz + i * sz = off + (i + 1) * sz from by rw [Nat.add_mul]; omega] at this

theorem DenEs.of_get {k : KW} {b sz : Nat} : ∀ {es : List (List AV)} {off : Nat}, (∀ (i : Nat) (e : List AV), es[i]? = some e → e.length = sz ∧ DenCs k e b (off + i * sz)) → DenEs k es b off sz
  | [], _, _ => by simp [DenEs]
  | z :: es, off, h => by
    simp only [DenEs]
    have h0 := h 0 z rfl
    refine ⟨h0.1, by simpa using h0.2, DenEs.of_get fun i e he => ?_⟩
    have := h (i + 1) e (by simpa using he)
    rwa [show off + (i + 1) * sz = off + sz + i * sz from by rw [Nat.add_mul]; omega] at this

/-- What was there and could not change is there, and cannot. -/
structure KW.le (k k' : KW) : Prop where
  size : k.w.heap.size ≤ k'.w.heap.size
  keep : ∀ b, b < k.w.heap.size → ¬ k.M b → ¬ k'.M b ∧ k'.w.heap[b]? = k.w.heap[b]?
  rows : ∀ (b : Nat) (c : Array Value) (T : TypeId), k.w.heap[b]? = some (.cells c T (0, 0)) → ∃ c', k'.w.heap[b]? = some (.cells c' T (0, 0)) ∧ c'.size = c.size
  ρ : k'.ρ = k.ρ

theorem KW.le.refl (k : KW) : k.le k := ⟨Nat.le_refl _, fun _ _ h => ⟨h, rfl⟩, fun _ c _ h => ⟨c, h, rfl⟩, rfl⟩

theorem KW.le.trans {a b c : KW} (h : a.le b) (h' : b.le c) : a.le c := by
  refine ⟨Nat.le_trans h.size h'.size, fun x hx hm => ?_, fun x vs T hx => ?_, h'.ρ.trans h.ρ⟩
  · obtain ⟨h1, h2⟩ := h.keep x hx hm
    obtain ⟨h3, h4⟩ := h'.keep x (Nat.lt_of_lt_of_le hx h.size) h1
    exact ⟨h3, h4.trans h2⟩
  · obtain ⟨c1, h1, h2⟩ := h.rows x vs T hx
    obtain ⟨c2, h3, h4⟩ := h'.rows x c1 T h1
    exact ⟨c2, h3, h4.trans h2⟩

theorem cell_lt {w : World} {b o : Nat} {y : Value} (h : w.cell? ⟨b, o, none⟩ = some y) : b < w.heap.size := by
  unfold World.cell? at h
  cases hb : w.heap[b]? with
  | none => simp [hb] at h
  | some x => exact (Array.getElem?_eq_some_iff.1 hb).1

mutual
theorem Den.mono {k k' : KW} (h : k.le k') : ∀ (x : AV) (y : Value), Den k x y → Den k' x y
  | .vl x, y, hd => by simpa [Den] using hd
  | .any, y, _ => by simp [Den]
  | .ce, y, hd => by simpa [Den] using hd
  | .sl es, y, hd => by
    simp only [Den] at hd ⊢
    obtain ⟨a, cap, h1, h2, h3, h4⟩ := hd
    refine ⟨a, cap, h1, h2, h3, ?_⟩
    rcases h4 with h4 | ⟨b, off, sz, h5, hb, h6, h7⟩
    · exact .inl h4
    · exact .inr ⟨b, off, sz, h5, Nat.lt_of_lt_of_le hb h.size, (h.keep b hb h6).1, DenEs.mono h es b off sz h6 h7⟩
  | .dp cs, y, hd => by
    simp only [Den] at hd ⊢
    obtain ⟨b, off, h1, hb, h2, h3⟩ := hd
    exact ⟨b, off, h1, Nat.lt_of_lt_of_le hb h.size, (h.keep b hb h2).1, DenCs.mono h cs b off h2 h3⟩
  | .ptr l off, y, hd => by
    simp only [Den, h.ρ] at hd ⊢
    exact hd
  | .agg cs, y, hd => by
    simp only [Den] at hd ⊢
    obtain ⟨vs, h1, h2⟩ := hd
    exact ⟨vs, h1, DenL.mono h cs _ h2⟩
  | .tup cs, y, hd => by
    simp only [Den] at hd ⊢
    obtain ⟨vs, h1, h2⟩ := hd
    exact ⟨vs, h1, DenL.mono h cs _ h2⟩
  | .fn f first caps, y, hd => by
    simp only [Den] at hd ⊢
    obtain ⟨fs, cs, h1, h2, h3⟩ := hd
    exact ⟨fs, cs, h1, DenL.mono h first _ h2, DenL.mono h caps _ h3⟩
  | .osl sz l off len cap, y, hd => by
    simp only [Den, h.ρ] at hd ⊢
    obtain ⟨a, cap', h1, h2, h3, h4, h5⟩ := hd
    refine ⟨a, cap', h1, h2, h3, h4, ?_⟩
    rcases h5 with h5 | ⟨b, vs, T, h6, h7, h8, h9⟩
    · exact .inl h5
    · obtain ⟨vs', h10, h11⟩ := h.rows b vs T h8
      exact .inr ⟨b, vs', T, h6, h7, h10, by omega⟩
  | .mp l, y, hd => by
    simp only [Den, h.ρ] at hd ⊢
    exact hd
  | .imp es, y, hd => by
    simp only [Den] at hd ⊢
    obtain ⟨b, ents, clock, h1, hb, h2, h3, h4⟩ := hd
    exact ⟨b, ents, clock, h1, Nat.lt_of_lt_of_le hb h.size, (h.keep b hb h2).1, by rw [(h.keep b hb h2).2]; exact h3, h4⟩
  | .gd g x, y, hd => by
    simp only [Den] at hd ⊢
    exact ⟨fun hg => Den.mono h x y (hd.1 hg), hd.2⟩
theorem DenEs.mono {k k' : KW} (h : k.le k') : ∀ (es : List (List AV)) (b off sz : Nat), ¬ k.M b → DenEs k es b off sz → DenEs k' es b off sz
  | [], _, _, _, _, _ => by simp [DenEs]
  | e :: es, b, off, sz, hm, hd => by
    simp only [DenEs] at hd ⊢
    exact ⟨hd.1, DenCs.mono h e b off hm hd.2.1, DenEs.mono h es b (off + sz) sz hm hd.2.2⟩
theorem DenCs.mono {k k' : KW} (h : k.le k') : ∀ (cs : List AV) (b off : Nat), ¬ k.M b → DenCs k cs b off → DenCs k' cs b off
  | [], _, _, _, _ => by simp [DenCs]
  | x :: cs, b, off, hm, hd => by
    simp only [DenCs] at hd ⊢
    obtain ⟨⟨y, h1, h2, h3⟩, h4⟩ := hd
    refine ⟨⟨y, ?_, h2, Den.mono h x y h3⟩, DenCs.mono h cs b (off + 1) hm h4⟩
    rw [← h1]
    exact World.cell?_of_block (h.keep b (cell_lt h1) hm).2
theorem DenL.mono {k k' : KW} (h : k.le k') : ∀ (cs : List AV) (vs : List Value), DenL k cs vs → DenL k' cs vs
  | [], [], _ => by simp [DenL]
  | [], _ :: _, hd => by simp [DenL] at hd
  | _ :: _, [], hd => by simp [DenL] at hd
  | x :: cs, y :: vs, hd => by
    simp only [DenL] at hd ⊢
    exact ⟨Den.mono h x y hd.1, DenL.mono h cs vs hd.2⟩
end
end Go.QL
