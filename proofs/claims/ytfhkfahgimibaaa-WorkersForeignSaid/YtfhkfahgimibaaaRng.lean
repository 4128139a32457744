/- A range over an iterator. -/
import Derived.Test.YtfhkfahgimibaaaDraw3
namespace Go.QL

theorem look_mem' {T : List (Nat × AV)} : ∀ {i : Nat} {x : AV}, look T i = some x → (i, x) ∈ T := by
  induction T with
  | nil => intro i x h; simp [look] at h
  | cons p r ih =>
    obtain ⟨j, y⟩ := p
    intro i x h
    simp only [look] at h
    split at h
    · rename_i e
      subst e
      simp only [Option.some.injEq] at h
      subst h
      simp
    · exact List.mem_cons_of_mem _ (ih h)

theorem St.mem_of_get {s : St} {i : Nat} {x : AV} (h : s.get i = x) (hx : x ≠ .any) : (i, x) ∈ s.t := by
  unfold St.get at h
  cases hl : look s.t i with
  | none =>
    rw [hl] at h
    exact absurd h.symm hx
  | some y =>
    rw [hl] at h
    simp only [Option.getD_some] at h
    subst h
    exact look_mem' hl

theorem SatAt.weaken {C : Cx} {s s' : St} {a : Act} {w : World} {M : Nat → Prop} {ρ : Nat → Option Nat} (h : SatAt C s a w M ρ) (h0 : C.N0 ≤ s'.n) (hl : s.le s') : SatAt C s' a w M ρ := by
  refine ⟨fun ρ' hρ => ?_, fun l x hx => (hl.lσ l x hx).1, fun l l' x x' b hx hx' => h.inj l l' x x' b (hl.σ _ _ hx) (hl.σ _ _ hx'), h.fr, h.mlt, h.foreign,
    fun l x b hx => h.own l x b (hl.σ _ _ hx), h.size,
    h.ex.step (Fr.refl _ fun _ => False) (fun _ hb => hb.elim) h.fr.size (fun b hb => .inl hb) (fun b hb => .inl hb) (fun b ⟨l, x, hx, hb⟩ => ⟨h.mut (hl.σ _ _ hx) hb, .inl ⟨l, x, hl.σ _ _ hx, hb⟩⟩) (fun l b y hy => hl.σ _ _ hy), h0, h.ag0⟩
  have hf := h.facts ρ fun _ _ => rfl
  refine ⟨fun i => ?_, fun l x hx => ?_⟩
  · by_cases hany : s'.get i = .any
    · rw [hany]
      simp [Den]
    · have hm := St.mem_of_get (s := s') (i := i) rfl hany
      have := hl.t i _ hm rfl
      have hd := hf.tmps i
      rw [this] at hd
      exact Den.agree (n := s'.n) hρ _ _ (hl.lt i _ hm) hd
  · have hd := hf.boxes l x (hl.σ l x hx)
    exact BxOK.agree (n := s'.n) hρ (hl.lσ l x hx).1 (hl.lσ l x hx).2 hd

theorem Sat.weaken {C : Cx} {s s' : St} {a : Act} {w : World} (h : Sat C s a w) (h0 : C.N0 ≤ s'.n) (hl : s.le s') : Sat C s' a w := by
  obtain ⟨M, ρ, h⟩ := h
  exact ⟨M, ρ, h.weaken h0 hl⟩

/-- A context without yields. -/
def Cx.at (C : Cx) (r : Option Nat) (w : World) (M S : Nat → Prop) (m0 : ∀ b, M b → b < w.heap.size) (N0 : Nat) (ρ : Nat → Option Nat) : Cx :=
  { P := C.P, r, w0 := w, M0 := M, S0 := S, N := C.N, m0, N0, ρ0 := ρ, yl := 0, yb := 0, J := fun _ _ _ _ => False, jst := fun _ _ _ _ _ _ _ h => h.elim }

theorem Cx.at_Y (C : Cx) (r : Option Nat) (w : World) (M S : Nat → Prop) (m0 : ∀ b, M b → b < w.heap.size) (N0 : Nat) (ρ : Nat → Option Nat) : (C.at r w M S m0 N0 ρ).Y :=
  ⟨fun _ _ _ _ _ _ h => h.elim, fun _ ⟨_, _, _, _, h⟩ => h.elim⟩

theorem SatAt.init {C : Cx} {s : St} {a : Act} {w : World} {M : Nat → Prop} {ρ ρ0 : Nat → Option Nat} {r : Option Nat} {N0 : Nat} (hf : ∀ ρ', (∀ l, l < s.n → ρ' l = ρ l) → Facts ⟨w, M, ρ'⟩ a s) (hlab : ∀ l x, look s.σ l = some x → l < s.n)
    (hinj : ∀ l l' x x' b, look s.σ l = some x → look s.σ l' = some x' → ρ l = some b → ρ l' = some b → l = l') (hM : ∀ b, M b → b < w.heap.size) (hsz : a.tmps.size = C.N) (hd : a.defers = []) (hn : N0 ≤ s.n) (hag : ∀ l, l < N0 → ρ l = ρ0 l)
    (hny : ∀ l b y, look s.σ l ≠ some (.yc b y)) : SatAt (C.at r w M (Sg ρ s.σ) hM N0 ρ0) s a w M ρ := by
  refine ⟨hf, hlab, hinj, Fr.refl _ _, hM, fun b h _ => h, fun l x b hx hb => .inl ⟨l, x, hx, hb⟩, hsz, ⟨⟨M, ?_, fun b h => h, ?_, ?_⟩, ?_, fun b h => .inl h⟩, hn, hag⟩
  · rintro b ⟨l, x, hx, hb⟩
    exact BxOK.lt (k := ⟨w, M, ρ⟩) ((hf ρ fun _ _ => rfl).boxes l x hx) hb
  · rw [hd]
    simp
  · intro l b y hy
    exact absurd hy (hny l b y)
  · rw [hd]
    exact ⟨List.nodup_nil, fun _ => rfl⟩

theorem SatAt.nyc {C : Cx} {s : St} {a : Act} {w : World} {M : Nat → Prop} {ρ : Nat → Option Nat} (h : SatAt C s a w M ρ) (hJ : ∀ y w X M, ¬ C.J y w X M) : ∀ l b y, look s.σ l ≠ some (.yc b y) := by
  intro l b y hy
  obtain ⟨⟨X, _, _, _, h4⟩, _⟩ := h.ex
  exact hJ _ _ _ _ (h4 l b y hy).2.2

/-- The temporaries of a round, in the memory. -/
theorem bind_den {k : KW} : ∀ (ps : List Nat) (x : List AV) (vs : List Value) (T : List (Nat × AV)) (tm : Array Value), (∀ p ∈ ps, p < tm.size) → DenL k x vs → (∀ i, Den k ((look T i).getD .any) (tm.getD i undef)) →
    ∀ i, Den k ((look (bindT ps x T) i).getD .any) (((ps.zip vs).foldl (fun t p => t.setIfInBounds p.1 p.2) tm).getD i undef)
  | [], x, vs, T, tm, _, _, h => by simpa [bindT] using h
  | p :: ps, [], vs, T, tm, _, hd, h => by
    cases vs with
    | nil => simpa [bindT] using h
    | cons _ _ => simp [DenL] at hd
  | p :: ps, x :: xs, [], T, tm, _, hd, h => by simp [DenL] at hd
  | p :: ps, x :: xs, v :: vs, T, tm, hp, hd, h => by
    simp only [DenL] at hd
    simp only [bindT, List.zip_cons_cons, List.foldl_cons]
    refine bind_den ps xs vs _ _ (fun q hq => by simpa using hp q (by simp [hq])) hd.2 fun i => ?_
    have hlt := hp p (by simp)
    by_cases e : i = p
    · subst e
      simp only [look, if_true, Option.getD_some]
      rw [Array.getD_eq_getD_getElem?, Array.getElem?_setIfInBounds]
      simp only [if_true, hlt, Option.getD_some]
      exact hd.1
    · simp only [look, if_neg e]
      rw [Array.getD_eq_getD_getElem?, Array.getElem?_setIfInBounds, if_neg (fun e2 => e e2.symm), ← Array.getD_eq_getD_getElem?]
      exact h i

theorem foldl_size : ∀ (l : List (Nat × Value)) (tm : Array Value), (l.foldl (fun t p => t.setIfInBounds p.1 p.2) tm).size = tm.size
  | [], _ => rfl
  | p :: l, tm => by
    rw [List.foldl_cons, foldl_size l]
    simp

theorem Fr.putObj {w : World} {l : Nat} {o o' : Obj} (hl : w.heap[l]? = some o) (ho : ∀ c T f, o ≠ .cells c T f) : Fr w (fun b => b = l) (w.putObj l o') := by
  refine ⟨rfl, rfl, rfl, by rw [World.putObj_size]; exact Nat.le_refl _, fun b _ hne => World.putObj_heap_other hne, fun b c T hc => ?_, Nat.le_refl _⟩
  by_cases e : b = l
  · subst e
    rw [hl] at hc
    exact absurd (Option.some.inj hc) (ho _ _ _)
  · exact ⟨c, by rw [World.putObj_heap_other e]; exact hc, rfl⟩

/-- A block that is nobody's box is another. -/
theorem SatAt.putl {C : Cx} {s : St} {a : Act} {w w' : World} {M : Nat → Prop} {ρ : Nat → Option Nat} (h : SatAt C s a w M ρ) {l : Nat} (hf : Fr w (fun b => b = l) w') (hm : M l) (hn : ¬ Sg ρ s.σ l) (h0 : C.w0.heap.size ≤ l)
    (hd : ∀ d ∈ a.defers, d ≠ mark l) (hJ : ∀ y w X M, ¬ C.J y w X M) : SatAt C s a w' M ρ := by
  have le : ∀ ρ', KW.le ⟨w, M, ρ'⟩ ⟨w', M, ρ'⟩ := fun ρ' => ⟨hf.size, fun b hb hm' => ⟨hm', hf.keep b hb fun e => hm' (e ▸ hm)⟩, hf.rows, rfl⟩
  refine ⟨fun ρ' hρ => ⟨fun i => Den.mono (le ρ') _ _ ((h.facts ρ' hρ).tmps i), fun i x hx => ?_⟩, h.lab, h.inj, ?_, fun b hb => Nat.lt_of_lt_of_le (h.mlt b hb) hf.size, h.foreign, h.own, h.size, ?_, h.n0, h.ag0⟩
  · have hbx := (h.facts ρ' hρ).boxes i x hx
    refine BxOK.mono (le ρ') (fun b hb => ⟨id, hf.keep b (h.mlt b (BxOK.lt hbx hb)) fun e => hn ⟨i, x, hx, ?_⟩⟩) hbx
    rw [← hρ i (h.lab i x hx), ← e]
    exact hb
  · refine h.fr.trans hf fun b hb e => ?_
    omega
  · obtain ⟨⟨X, h1, h2, h3, h4⟩, h5, h6⟩ := h.ex
    refine ⟨⟨X, h1, h2, fun d hd' => ?_, fun l b y hy => absurd (h4 l b y hy).2.2 (hJ _ _ _ _)⟩, h5, h6⟩
    obtain ⟨D, e1, e2, e3, e4, e5⟩ := h3 d hd'
    refine ⟨D, e1, e2, (hf.keep D (Array.getElem?_eq_some_iff.1 e3).1 fun e => ?_).trans e3, e4, e5⟩
    exact hd d hd' (e ▸ e1)

/-- The caller of an iterator, between two yields. -/
structure RSt (C : Cx) (T : List (Nat × AV)) (a : Act) (l : Nat) (o : Obj) (σ : List (Nat × Bx)) (n : Nat) (W : World) (X Mc : Nat → Prop) (ρ : Nat → Option Nat) : Prop where
  sat : SatAt C ⟨T, σ, n⟩ a W Mc ρ
  rcd : W.heap[l]? = some o
  ml : Mc l
  nl : ¬ Sg ρ σ l
  l0 : C.w0.heap.size ≤ l
  xm : ∀ b, X b → Mc b
  xo : ∀ b, X b → ¬ Sg ρ σ b
  xl : ¬ X l
  xd : ∀ d ∈ a.defers, ∀ b, d = mark b → ¬ X b
  xs : ∀ b, X b → C.S0 b ∨ C.w0.heap.size ≤ b

theorem RSt.step {C : Cx} {T : List (Nat × AV)} {a : Act} {l : Nat} {o : Obj} {σ : List (Nat × Bx)} {n : Nat} {W W' : World} {X X1 Mc : Nat → Prop} {ρ : Nat → Option Nat} (h : RSt C T a l o σ n W X Mc ρ) (hJ : ∀ y w X M, ¬ C.J y w X M)
    (hf : Fr W X W') (hX1 : ∀ b, X1 b → X b ∨ (W.heap.size ≤ b ∧ b < W'.heap.size)) : RSt C T a l o σ n W' X1 (fun b => (Mc b ∧ (X b → X1 b)) ∨ X1 b) ρ := by
  have hs := h.sat
  have lt1 : ∀ {b}, X1 b → b < W.heap.size → X b := fun h1 hlt => (hX1 _ h1).elim id fun h2 => by omega
  have le : ∀ ρ', KW.le ⟨W, Mc, ρ'⟩ ⟨W', fun b => (Mc b ∧ (X b → X1 b)) ∨ X1 b, ρ'⟩ := fun ρ' =>
    ⟨hf.size, fun b hb hm => ⟨fun hm' => hm'.elim (fun h => hm h.1) fun h1 => hm (h.xm b (lt1 h1 hb)), hf.keep b hb fun hx => hm (h.xm b hx)⟩, hf.rows, rfl⟩
  have own : ∀ {b}, Sg ρ σ b → ((Mc b ∧ (X b → X1 b)) ∨ X1 b) ∧ W'.heap[b]? = W.heap[b]? := by
    rintro b ⟨i, x, hx, hb⟩
    have hm := hs.mut hx hb
    have hnx : ¬ X b := fun hx' => h.xo b hx' ⟨i, x, hx, hb⟩
    exact ⟨.inl ⟨hm, fun hx' => absurd hx' hnx⟩, hf.keep b (hs.mlt b hm) hnx⟩
  have hl : l < W.heap.size := (Array.getElem?_eq_some_iff.1 h.rcd).1
  have hsat : SatAt C ⟨T, σ, n⟩ a W' (fun b => (Mc b ∧ (X b → X1 b)) ∨ X1 b) ρ := by
    refine ⟨fun ρ' hρ => ⟨fun i => Den.mono (le ρ') _ _ ((hs.facts ρ' hρ).tmps i), fun i x hx => ?_⟩, hs.lab, hs.inj, ?_, fun b hb => ?_, fun b h1 h2 => ?_, hs.own, hs.size, ?_, hs.n0, hs.ag0⟩
    · refine BxOK.mono (le ρ') (fun b hb => ?_) ((hs.facts ρ' hρ).boxes i x hx)
      have hb' : ρ i = some b := by rw [← hρ i (hs.lab i x hx)]; exact hb
      exact ⟨fun _ => (own ⟨i, x, hx, hb'⟩).1, (own ⟨i, x, hx, hb'⟩).2⟩
    · refine hs.fr.trans hf fun b hb hx => ?_
      rcases h.xs b hx with h1 | h1
      · exact h1
      · omega
    · rcases hb with hb | hb
      · exact Nat.lt_of_lt_of_le (hs.mlt b hb.1) hf.size
      · rcases hX1 b hb with h1 | h1
        · exact Nat.lt_of_lt_of_le (hs.mlt b (h.xm b h1)) hf.size
        · exact h1.2
    · refine .inl ⟨hs.foreign b h1 h2, fun hx => ?_⟩
      rcases h.xs b hx with h3 | h3
      · exact absurd h3 h2
      · have := C.m0 b h1
        omega
    · obtain ⟨⟨Y, h1, h2, h3, h4⟩, h5, h6⟩ := hs.ex
      refine ⟨⟨fun b => Sg ρ σ b ∨ ∃ d ∈ a.defers, d = mark b, fun b hb => .inl hb, ?_, fun d hd => ?_, fun l b y hy => absurd (h4 l b y hy).2.2 (hJ _ _ _ _)⟩, h5, fun b hb => ?_⟩
      · rintro b (hb | ⟨d, hd, rfl⟩)
        · exact (own hb).1
        · obtain ⟨D, e1, _, _, e4, _⟩ := h3 _ hd
          have : D = b := by simp only [mark, Deferred.mk.injEq, Target.collected.injEq, and_true] at e1; exact e1.symm
          subst this
          exact .inl ⟨h2 _ e4, fun hx => absurd hx (h.xd _ hd _ rfl)⟩
      · obtain ⟨D, e1, e2, e3, e4, e5⟩ := h3 d hd
        exact ⟨D, e1, e2, (hf.keep D (Array.getElem?_eq_some_iff.1 e3).1 (h.xd d hd D e1)).trans e3, .inr ⟨d, hd, e1⟩, e5⟩
      · rcases hb with hb | hb
        · exact h6 b hb.1
        · rcases hX1 b hb with h7 | h7
          · exact h6 b (h.xm b h7)
          · have := hs.fr.size
            exact .inr (by omega)
  refine ⟨hsat, (hf.keep l hl h.xl).trans h.rcd, .inl ⟨h.ml, fun hx => absurd hx h.xl⟩, h.nl, h.l0, fun b hb => .inr hb, fun b hb hsg => ?_, fun hx => ?_, fun d hd b e hx => ?_, fun b hb => ?_⟩
  · rcases hX1 b hb with h1 | h1
    · exact h.xo b h1 hsg
    · obtain ⟨i, x, hx, hb'⟩ := hsg
      have := hs.mlt b (hs.mut hx hb')
      omega
  · rcases hX1 l hx with h1 | h1
    · exact h.xl h1
    · omega
  · rcases hX1 b hx with h1 | h1
    · exact h.xd d hd b e h1
    · obtain ⟨⟨Y, _, _, h3, _⟩, _⟩ := hs.ex
      obtain ⟨D, e1, _, e3, _, _⟩ := h3 d hd
      have : D = b := by rw [e1] at e; simp only [mark, Deferred.mk.injEq, Target.collected.injEq, and_true] at e; exact e
      subst this
      have := (Array.getElem?_eq_some_iff.1 e3).1
      omega
  · rcases hX1 b hb with h1 | h1
    · exact h.xs b h1
    · have := hs.fr.size
      exact .inr (by omega)

/-- How a round may be left. -/
def jmp : Exit → Option Code
  | .ret => some .ret
  | .exit i => some (.exit i)
  | _ => none

def RJ (C : Cx) (T : List (Nat × AV)) (a : Act) (l : Nat) (rc : LoopState → Option Code → Loop) (k : Nat) (I : List (List AV) → List (Nat × Bx) → Nat → Prop) (Q : Exit → St → Prop) : YJ := fun y W X MW =>
  ∃ σ n Mc ρ, (∀ b, Mc b → MW b) ∧ match y with
    | some rest => I rest σ n ∧ (∀ x ∈ rest, x.length = k ∧ lbs 0 x) ∧ (∀ i x, (i, x) ∈ T → lb n x) ∧ RSt C T a l (.loop (rc .ready none)) σ n W X Mc ρ
    | none => ∃ e c, jmp e = some c ∧ Q e ⟨T, σ, n⟩ ∧ RSt C T a l (.loop (rc .done (some c))) σ n W X Mc ρ

theorem RJ_st {C : Cx} {T : List (Nat × AV)} {a : Act} {l : Nat} {rc : LoopState → Option Code → Loop} {k : Nat} {I : List (List AV) → List (Nat × Bx) → Nat → Prop} {Q : Exit → St → Prop} (hJ : ∀ y w X M, ¬ C.J y w X M) : YSt (RJ C T a l rc k I Q) := by
  rintro y W X MW W' X1 M1 ⟨σ, n, Mc, ρ, hM, hy⟩ hf hX1 hXM hMM
  refine ⟨σ, n, fun b => (Mc b ∧ (X b → X1 b)) ∨ X1 b, ρ, fun b hb => ?_, ?_⟩
  · rcases hb with hb | hb
    · by_cases hx : X b
      · exact hXM b (hb.2 hx)
      · exact hMM b (hM b hb.1) hx
    · exact hXM b hb
  · cases y with
    | some rest => exact ⟨hy.1, hy.2.1, hy.2.2.1, hy.2.2.2.step hJ hf hX1⟩
    | none =>
      obtain ⟨e, c, h1, h2, h3⟩ := hy
      exact ⟨e, c, h1, h2, h3.step hJ hf hX1⟩

theorem mark_inj {b D : Nat} (h : mark b = mark D) : b = D := by
  simp only [mark, Deferred.mk.injEq, Target.collected.injEq, and_true] at h
  exact h

section
variable {C : Cx} {T : List (Nat × AV)} {a : Act} {l : Nat} {o : Obj} {σ : List (Nat × Bx)} {n : Nat} {W : World} {X Mc : Nat → Prop} {ρ : Nat → Option Nat}

/-- Behind a round. -/
theorem RSt.after (h : RSt C T a l o σ n W X Mc ρ) (hr : C.r = none) (hJ : ∀ y w X M, ¬ C.J y w X M) (hT : ∀ i x, (i, x) ∈ T → lb n x) {r r' : Option Nat} {s1 s2 : St} {a1 a2 : Act} {w1 w2 w3 w4 : World} {M1 M3 : Nat → Prop} {ρ1 ρ3 : Nat → Option Nat} {hm0 : ∀ b, Mc b → b < W.heap.size} {hm1 : ∀ b, M1 b → b < w2.heap.size} {o4 : Obj}
    (hs1 : SatAt (C.at r W Mc (Sg ρ σ) hm0 n ρ) s1 a1 w1 M1 ρ1) (hf2 : Fr w1 (fun b => b = l) w2) (hs2 : SatAt (C.at r' w2 M1 (Sg ρ1 s1.σ) hm1 n ρ1) s2 a2 w3 M3 ρ3) (hf4 : Fr w3 (fun b => b = l) w4) (hrec : w4.heap[l]? = some o4) (hod : ∀ x, o ≠ .deferred x) :
    RSt C T a l o4 s2.σ s2.n w4 X M3 ρ3 ∧ Fr W (fun b => Mc b ∧ ¬ X b) w4 ∧ (∀ b, b < W.heap.size → M3 b → Mc b) ∧ (∀ b, X b → M3 b) ∧ ∀ b, M3 b → b < w4.heap.size := by
  have hs := h.sat
  have hl : l < W.heap.size := (Array.getElem?_eq_some_iff.1 h.rcd).1
  have sgM : ∀ {b}, Sg ρ σ b → Mc b := fun ⟨i, x, hx, hb⟩ => hs.mut hx hb
  have own1 : ∀ {b}, Sg ρ1 s1.σ b → Sg ρ σ b ∨ W.heap.size ≤ b := fun ⟨i, x, hx, hb⟩ => hs1.own i x _ hx hb
  have z1 : W.heap.size ≤ w1.heap.size := hs1.fr.size
  have z2 : w1.heap.size ≤ w2.heap.size := hf2.size
  have z3 : w2.heap.size ≤ w3.heap.size := hs2.fr.size
  have own2 : ∀ {b}, Sg ρ3 s2.σ b → Sg ρ σ b ∨ W.heap.size ≤ b := fun ⟨i, x, hx, hb⟩ => (hs2.own i x _ hx hb).elim (fun h => own1 h) fun (h : w2.heap.size ≤ _) => .inr (by omega)
  have f1 : Fr W (Sg ρ σ) w1 := hs1.fr
  have f3 : Fr w2 (Sg ρ1 s1.σ) w3 := hs2.fr
  have fW : Fr W (fun b => Sg ρ σ b ∨ b = l) w4 := by
    refine (((f1.mono fun b hb => .inl hb).trans hf2 fun b hb e => .inr e).trans f3 fun b hb hsg => ?_).trans hf4 fun b hb e => .inr e
    rcases own1 hsg with h1 | h1
    · exact .inl h1
    · omega
  have back : ∀ b, b < W.heap.size → M3 b → Mc b := by
    intro b hb hm
    rcases hs2.ex.2.2 b hm with h1 | h1
    · rcases hs1.ex.2.2 b h1 with h2 | h2
      · exact h2
      · have : W.heap.size ≤ b := h2
        omega
    · have : w2.heap.size ≤ b := h1
      omega
  have fwd : ∀ b, Mc b → ¬ Sg ρ σ b → M3 b := by
    intro b hm hn
    refine hs2.foreign b (hs1.foreign b hm hn) fun hsg => ?_
    rcases own1 hsg with h1 | h1
    · exact hn h1
    · have := hs.mlt b hm
      omega
  have ag : ∀ i, i < n → ρ3 i = ρ i := fun i hi => (hs2.ag0 i hi).trans (hs1.ag0 i hi)
  have hn2 : n ≤ s2.n := hs2.n0
  have leW : KW.le ⟨W, Mc, ρ⟩ ⟨w4, M3, ρ⟩ := ⟨fW.size, fun b hb hm => ⟨fun h3 => hm (back b hb h3), fW.keep b hb fun h1 => h1.elim (fun h2 => hm (sgM h2)) fun e => hm (e ▸ h.ml)⟩, fW.rows, rfl⟩
  have l3 : M3 l := fwd l h.ml h.nl
  have nl3 : ¬ Sg ρ3 s2.σ l := fun hsg => (own2 hsg).elim h.nl fun h1 => by omega
  have ny2 := hs2.nyc (fun _ _ _ _ h => h)
  have hsat : SatAt C ⟨T, s2.σ, s2.n⟩ a w4 M3 ρ3 := by
    refine ⟨fun ρ'' hρ => ⟨fun i => ?_, fun i x hx => ?_⟩, hs2.lab, hs2.inj, ?_, fun b hb => Nat.lt_of_lt_of_le (hs2.mlt b hb) hf4.size, fun b h1 h2 => ?_, fun i x b hx hb => ?_, hs.size, ?_, Nat.le_trans hs.n0 hn2, fun i hi => (ag i (Nat.lt_of_lt_of_le hi hs.n0)).trans (hs.ag0 i hi)⟩
    · have hd := Den.mono leW _ _ ((hs.facts ρ fun _ _ => rfl).tmps i)
      by_cases hany : (⟨T, s2.σ, s2.n⟩ : St).get i = .any
      · rw [hany]
        simp [Den]
      · have hm := St.mem_of_get (s := ⟨T, s2.σ, s2.n⟩) (i := i) rfl hany
        exact Den.agree (n := n) (fun j hj => (hρ j (by show j < s2.n; omega)).trans (ag j hj)) _ _ (hT i _ hm) hd
    · have le : KW.le ⟨w3, M3, ρ''⟩ ⟨w4, M3, ρ''⟩ := ⟨hf4.size, fun b hb hm => ⟨hm, hf4.keep b hb fun e => hm (e ▸ l3)⟩, hf4.rows, rfl⟩
      have hbx := (hs2.facts ρ'' hρ).boxes i x hx
      refine BxOK.mono le (fun b hb => ⟨id, hf4.keep b (hs2.mlt b (BxOK.lt hbx hb)) fun e => nl3 ⟨i, x, hx, ?_⟩⟩) hbx
      rw [← hρ i (hs2.lab i x hx), ← e]
      exact hb
    · refine hs.fr.trans fW fun b hb hb' => ?_
      rcases hb' with ⟨i, x, hx, hb'⟩ | e
      · rcases hs.own i x b hx hb' with h1 | h1
        · exact h1
        · omega
      · have := h.l0
        omega
    · refine fwd b (hs.foreign b h1 h2) fun ⟨i, x, hx, hb⟩ => ?_
      rcases hs.own i x b hx hb with h3 | h3
      · exact h2 h3
      · have := C.m0 b h1
        omega
    · rcases own2 ⟨i, x, hx, hb⟩ with ⟨i', x', hx', hb'⟩ | h1
      · exact hs.own i' x' b hx' hb'
      · have := hs.fr.size
        exact .inr (by omega)
    · obtain ⟨⟨Y, h1, h2, h3, h4⟩, h5, h6⟩ := hs.ex
      have mk : ∀ d ∈ a.defers, ∃ D, d = mark D ∧ C.w0.heap.size ≤ D ∧ w4.heap[D]? = some (.deferred (some [])) ∧ M3 D ∧ ¬ Sg ρ3 s2.σ D := by
        intro d hd
        obtain ⟨D, e1, e2, e3, e4, e5⟩ := h3 d hd
        have hlt := (Array.getElem?_eq_some_iff.1 e3).1
        refine ⟨D, e1, e2, (fW.keep D hlt fun h7 => ?_).trans e3, fwd D (h2 D e4) e5, fun hsg => ?_⟩
        · rcases h7 with h7 | h7
          · exact e5 h7
          · rw [h7, h.rcd] at e3
            exact hod _ (Option.some.inj e3)
        · rcases own2 hsg with h7 | h7
          · exact e5 h7
          · omega
      refine ⟨⟨fun b => Sg ρ3 s2.σ b ∨ ∃ d ∈ a.defers, d = mark b, fun b hb => .inl hb, ?_, fun d hd => ?_, fun i b y hy => absurd hy (ny2 i b y)⟩, h5, fun b hb => ?_⟩
      · rintro b (⟨i, x, hx, hb⟩ | ⟨d, hd, rfl⟩)
        · exact hs2.mut hx hb
        · obtain ⟨D, e1, _, _, e4, _⟩ := mk _ hd
          rw [mark_inj e1]
          exact e4
      · obtain ⟨D, e1, e2, e3, e4, e5⟩ := mk d hd
        exact ⟨D, e1, e2, e3, .inr ⟨d, hd, e1⟩, e5⟩
      · by_cases hlt : b < W.heap.size
        · exact h6 b (back b hlt hb)
        · have := hs.fr.size
          exact .inr (by omega)
  have xlt : ∀ b, X b → b < W.heap.size := fun b hb => hs.mlt b (h.xm b hb)
  refine ⟨⟨hsat, hrec, l3, nl3, h.l0, fun b hb => fwd b (h.xm b hb) (h.xo b hb), fun b hb hsg => ?_, h.xl, h.xd, h.xs⟩, fW.mono fun b hb => ?_, back, fun b hb => fwd b (h.xm b hb) (h.xo b hb), hsat.mlt⟩
  · rcases own2 hsg with h1 | h1
    · exact h.xo b hb h1
    · have := xlt b hb
      omega
  · rcases hb with hb | rfl
    · exact ⟨sgM hb, fun hx => h.xo b hx hb⟩
    · exact ⟨h.ml, h.xl⟩

theorem RSt.le (h : RSt C T a l o σ n W X Mc ρ) {σ' : List (Nat × Bx)} {n' : Nat} (h0 : C.N0 ≤ n') (hl : St.le ⟨T, σ, n⟩ ⟨T, σ', n'⟩) : RSt C T a l o σ' n' W X Mc ρ :=
  have sg : ∀ {b}, Sg ρ σ' b → Sg ρ σ b := fun ⟨i, x, hx, hb⟩ => ⟨i, x, hl.σ i x hx, hb⟩
  ⟨h.sat.weaken h0 hl, h.rcd, h.ml, fun hb => h.nl (sg hb), h.l0, h.xm, fun b hb hsg => h.xo b hb (sg hsg), h.xl, h.xd, h.xs⟩
end
end Go.QL
