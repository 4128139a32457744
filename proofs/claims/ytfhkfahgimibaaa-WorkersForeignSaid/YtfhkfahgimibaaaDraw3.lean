/- A region whose operations may run in any order that its edges allow. -/
import Derived.Test.YtfhkfahgimibaaaDraw2
namespace Go.QL

/-- What an operation waits for. -/
def aft (ops : Array Oper) (i : Nat) : List Nat := match ops[i]? with
  | some o => (o.after.toList.filter (Region.binds .any)).map (·.on)
  | none => []

def dstL (gs : List GO) (i : Nat) : Option Nat := (gs[i]?).bind (·.dst)

/-- One operation waits for another, through others. -/
def reach (ops : Array Oper) : Nat → Nat → Nat → Bool
  | 0, _, _ => false
  | d + 1, j, i => (aft ops j).any fun k => k == i || reach ops d k i

/-- The first n operations in any order, the others in theirs. -/
structure DrawOK (ops : Array Oper) (gs : List GO) (n : Nat) : Prop where
  le : n ≤ ops.size
  len : gs.length = ops.size
  dist : ∀ i j d, i < j → j < n → dstL gs i = some d → dstL gs j ≠ some d
  reads : ∀ i g, i < n → gs[i]? = some g → ∀ x ∈ g.reads, ∀ j, j < n → dstL gs j = some x → (j ∈ aft ops i ∧ j < i) ∨ (i < j ∧ ∃ d, reach ops d j i = true)
  rank : ∀ md, ∃ rk : Nat → Nat, ∀ (i : Nat) (o : Oper), ops[i]? = some o → ∀ e ∈ o.after.toList, Region.binds md e = true → e.on < ops.size ∧ rk e.on < rk i
  chain : ∀ i, n ≤ i → i < ops.size → ∀ j, j < i → j ∈ aft ops i ∨ ∃ k, j < k ∧ k < i ∧ j ∈ aft ops k

theorem tr_plain {P : Program} {o : Op} {m : MO} (h : trOp P o = some m) : ∀ c, o ≠ .defer c := by
  intro c e
  subst e
  simp [trOp] at h

theorem owp_in {C : Cx} {ops : Array Oper} {o : Oper} {g : GO} {a : Act} {w : World} {K : Act → World → Prop} {Q : Exit → Act → World → Prop} (hg : GOok C.P C.N ops o g) (h : owp C o a w K Q) : o.wpIn C.F 0 C.P a w K Q := by
  refine ⟨fun _ _ => trivial, ?_⟩
  rw [Oper.semAt_eq _ _ _ (tr_plain hg.parts.2.2)]
  exact h

def edgesOf (md : Region.Mode) (ops : Array Oper) (i : Nat) : List Nat := match ops[i]? with
  | some o => (o.after.toList.filter (Region.binds md)).map (·.on)
  | none => []

/-- How long an operation waits at most. -/
def ranks (es : List (List Nat)) : Nat → List Nat → List Nat
  | 0, r => r
  | d + 1, r => ranks es d (es.map fun l => l.foldl (fun m k => max m (r.getD k 0 + 1)) 0)

def rankCk (md : Region.Mode) (ops : Array Oper) : Bool :=
  let es := (List.range ops.size).map (edgesOf md ops)
  let r := ranks es ops.size (List.replicate ops.size 0)
  (List.range ops.size).all fun i => (edgesOf md ops i).all fun k => decide (k < ops.size) && decide (r.getD k 0 < r.getD i 0)

def backCk (ops : Array Oper) : Bool :=
  (List.range ops.size).all fun i => match ops[i]? with | some o => o.after.toList.all fun e => decide (e.on < i) | none => true

theorem rankCk_ok {md : Region.Mode} {ops : Array Oper} (h : rankCk md ops = true) : ∃ rk : Nat → Nat, ∀ (i : Nat) (o : Oper), ops[i]? = some o → ∀ e ∈ o.after.toList, Region.binds md e = true → e.on < ops.size ∧ rk e.on < rk i := by
  unfold rankCk at h
  simp only [List.all_eq_true, List.mem_range, Bool.and_eq_true, decide_eq_true_eq] at h
  refine ⟨fun i => (ranks ((List.range ops.size).map (edgesOf md ops)) ops.size (List.replicate ops.size 0)).getD i 0, fun i o ho e he hb => ?_⟩
  have := h i (Array.getElem?_eq_some_iff.1 ho).1 e.on (by
    unfold edgesOf
    rw [ho]
    simp only [List.mem_map, List.mem_filter]
    exact ⟨e, ⟨he, hb⟩, rfl⟩)
  exact this

theorem backCk_ok {ops : Array Oper} (h : backCk ops = true) (md : Region.Mode) : ∃ rk : Nat → Nat, ∀ (i : Nat) (o : Oper), ops[i]? = some o → ∀ e ∈ o.after.toList, Region.binds md e = true → e.on < ops.size ∧ rk e.on < rk i := by
  unfold backCk at h
  simp only [List.all_eq_true, List.mem_range] at h
  refine ⟨fun i => i, fun i o ho e he _ => ?_⟩
  have hi := (Array.getElem?_eq_some_iff.1 ho).1
  have := h i hi
  rw [ho] at this
  have := List.all_eq_true.1 this e he
  simp at this
  exact ⟨by omega, this⟩

def drawCk (ops : Array Oper) (gs : List GO) (n : Nat) : Bool :=
  decide (n ≤ ops.size) && decide (gs.length = ops.size) &&
  (List.range n).all (fun j => (List.range j).all fun i => match dstL gs i, dstL gs j with | some d, some e => !(d == e) | _, _ => true) &&
  (List.range n).all (fun i => match gs[i]? with
    | some g => g.reads.all fun x => (List.range n).all fun j => match dstL gs j with | some d => !(d == x) || ((aft ops i).contains j && decide (j < i)) || (decide (i < j) && reach ops 5 j i) | none => true
    | none => true) &&
  (backCk ops || (rankCk .any ops && rankCk .text ops && rankCk .gc ops)) &&
  (List.range ops.size).all (fun i => decide (i < n) || (List.range i).all fun j => (aft ops i).contains j || (List.range i).any fun k => decide (j < k) && (aft ops k).contains j)

theorem drawCk_ok {ops : Array Oper} {gs : List GO} {n : Nat} (h : drawCk ops gs n = true) : DrawOK ops gs n := by
  unfold drawCk at h
  simp only [Bool.and_eq_true, List.all_eq_true, List.mem_range, decide_eq_true_eq, Bool.or_eq_true, List.any_eq_true, List.contains_iff_mem] at h
  obtain ⟨⟨⟨⟨⟨h1, h2⟩, h3⟩, h4⟩, h5⟩, h6⟩ := h
  refine ⟨h1, h2, fun i j d hij hj hd hd' => ?_, fun i g hi hg x hx j hj hd => ?_, fun md => ?_, fun i hn hi j hj => ?_⟩
  · have := h3 j hj i hij
    rw [hd, hd'] at this
    simp at this
  · have := h4 i hi
    rw [hg] at this
    have := List.all_eq_true.1 this x hx
    have := List.all_eq_true.1 this j (List.mem_range.2 hj)
    rw [hd] at this
    simp only [BEq.rfl, Bool.not_true, Bool.false_or, Bool.or_eq_true, Bool.and_eq_true, decide_eq_true_eq, List.contains_iff_mem] at this
    rcases this with h | h
    · exact .inl h
    · exact .inr ⟨h.1, 5, h.2⟩
  · rcases h5 with h5 | ⟨⟨h5, h7⟩, h8⟩
    · exact backCk_ok h5 md
    · cases md
      · exact rankCk_ok h7
      · exact rankCk_ok h8
      · exact rankCk_ok h5
  · rcases h6 i hi with h | h
    · omega
    · rcases h j hj with h | ⟨k, hk, h1, h2⟩
      · exact .inl h
      · exact .inr ⟨k, h1, hk, h2⟩

theorem reach_ok {ops : Array Oper} {listed : Array Bool} (hc : ∀ i, i < ops.size → listed.getD i false = true → ∀ j ∈ aft ops i, listed.getD j false = true) : ∀ (d j i : Nat), reach ops d j i = true → listed.getD j false = true → listed.getD i false = true
  | 0, _, _, h, _ => by simp [reach] at h
  | d + 1, j, i, h, hj => by
    simp only [reach, List.any_eq_true, Bool.or_eq_true, beq_iff_eq] at h
    obtain ⟨k, hk, h⟩ := h
    have hjs : j < ops.size := by
      refine Classical.byContradiction fun hge => ?_
      unfold aft at hk
      rw [Array.getElem?_eq_none (by omega)] at hk
      simp at hk
    have hkl := hc j hjs hj k hk
    rcases h with rfl | h
    · exact hkl
    · exact reach_ok hc d k i h hkl

theorem binds_any {md : Region.Mode} {e : Edge} (h : Region.binds .any e = true) : Region.binds md e = true := by
  unfold Region.binds at h ⊢
  split <;> rename_i hg <;> simp [hg] at h ⊢

theorem ready_of {md : Region.Mode} {ops : Array Oper} {listed : Array Bool} {i : Nat} (h : i ∈ Region.ready md ops listed) : i < ops.size ∧ listed.getD i true = false ∧ ∀ j ∈ aft ops i, listed.getD j false = true := by
  unfold Region.ready at h
  simp only [List.mem_filter, List.mem_range, Bool.and_eq_true, Bool.not_eq_true'] at h
  obtain ⟨hi, h1, h2⟩ := h
  refine ⟨hi, h1, ?_⟩
  rw [Array.getElem?_eq_getElem hi] at h2
  unfold aft
  rw [Array.getElem?_eq_getElem hi]
  simp only [Option.map_some, Option.getD_some, Array.all_eq_true_iff_forall_mem, List.mem_map, List.mem_filter, Array.mem_toList_iff, Bool.or_eq_true, Bool.not_eq_true', forall_exists_index, and_imp] at h2 ⊢
  intro j e he hb hj
  subst hj
  rcases h2 e he with h | h
  · rw [binds_any hb] at h
    cases h
  · exact h

theorem ready_to {md : Region.Mode} {ops : Array Oper} {listed : Array Bool} {i : Nat} {o : Oper} (ho : ops[i]? = some o) (h1 : listed.getD i true = false) (h : ∀ e ∈ o.after.toList, Region.binds md e = true → listed.getD e.on false = true) : i ∈ Region.ready md ops listed := by
  unfold Region.ready
  simp only [List.mem_filter, List.mem_range, Bool.and_eq_true, Bool.not_eq_true']
  refine ⟨(Array.getElem?_eq_some_iff.1 ho).1, h1, ?_⟩
  rw [ho]
  simp only [Option.map_some, Option.getD_some, Array.all_eq_true_iff_forall_mem, Bool.or_eq_true]
  intro e he
  cases hb : Region.binds md e with
  | false => exact .inl rfl
  | true => exact .inr (h e (Array.mem_toList_iff.2 he) hb)

/-- How many are still to come. -/
def left (listed : Array Bool) : Nat := listed.toList.count false

theorem left_set {listed : Array Bool} {i : Nat} (hi : i < listed.size) (h : listed.getD i true = false) : left (listed.setIfInBounds i true) + 1 = left listed := by
  unfold left
  rw [Array.toList_setIfInBounds, List.count_set (by simpa using hi)]
  have e : listed.toList[i]'(by simpa using hi) = false := by
    rw [Array.getD_eq_getD_getElem?, Array.getElem?_eq_getElem hi] at h
    simpa using h
  have hp : 0 < listed.toList.count false := List.count_pos_iff.2 (e ▸ List.getElem_mem _)
  rw [e, if_pos (by rfl), if_neg (by decide)]
  omega

theorem left_zero {listed : Array Bool} (h : left listed = 0) (i : Nat) (hi : i < listed.size) : listed.getD i false = true := by
  unfold left at h
  have := List.count_eq_zero.1 h
  rw [Array.getD_eq_getD_getElem?, Array.getElem?_eq_getElem hi]
  simp only [Option.getD_some]
  cases hb : listed[i] with
  | true => rfl
  | false => exact absurd (hb ▸ Array.getElem_mem hi : false ∈ listed) (by simpa using this)

theorem getD_tf {listed : Array Bool} {i : Nat} (hi : i < listed.size) : listed.getD i true = listed.getD i false := by
  rw [Array.getD_eq_getD_getElem?, Array.getD_eq_getD_getElem?, Array.getElem?_eq_getElem hi]
  rfl

theorem getD_set' {listed : Array Bool} {i j : Nat} (hi : i < listed.size) : (listed.setIfInBounds i true).getD j false = if i = j then true else listed.getD j false := by
  rw [Array.getD_eq_getD_getElem?, Array.getD_eq_getD_getElem?, Array.getElem?_setIfInBounds]
  by_cases h : i = j
  · subst h
    simp [hi]
  · simp [h]

theorem least_ex' {p : Nat → Prop} (h : ∃ m, p m) : ∃ m, p m ∧ ∀ m', p m' → m ≤ m' := by
  obtain ⟨m, hm⟩ := h
  induction m using Nat.strongRecOn with
  | _ m ih =>
    by_cases h : ∃ m', m' < m ∧ p m'
    · obtain ⟨m', h1, h2⟩ := h
      exact ih m' h1 h2
    · exact ⟨m, hm, fun m' h2 => Nat.le_of_not_lt fun h1 => h ⟨m', h1, h2⟩⟩

section
variable {C : Cx} {ops : Array Oper} {gs : List GO} {n : Nat} {ss : Nat → St}

/-- Down to where an operation waits, all is done. -/
theorem chain_all (hk : DrawOK ops gs n) {listed : Array Bool} (hc : ∀ i, i < ops.size → listed.getD i false = true → ∀ j ∈ aft ops i, listed.getD j false = true)
    {i : Nat} (hn : n ≤ i) (hi : i < ops.size) (hr : ∀ j ∈ aft ops i, listed.getD j false = true) : ∀ d j, j + d = i → 0 < d → listed.getD j false = true := by
  intro d
  induction d using Nat.strongRecOn with
  | _ d ih =>
    intro j hj hd
    rcases hk.chain i hn hi j (by omega) with h | ⟨k, h1, h2, h3⟩
    · exact hr j h
    · exact hc k (by omega) (ih (i - k) (by omega) k (by omega) (by omega)) j h3

structure Seqn (P : Program) (gs : List GO) (n : Nat) (ss : Nat → St) : Prop where
  step : ∀ i g, i < n → gs[i]? = some g → vdop P (ss 0).n g (ss i) (fun x => x = ss (i + 1))
  lab : ∀ l x, look (ss 0).σ l = some x → l < (ss 0).n
  len : n ≤ gs.length

theorem Seqn.at {P : Program} (h : Seqn P gs n ss) {i : Nat} (hi : i < n) : ∃ g, gs[i]? = some g ∧ dstL gs i = g.dst ∧ vdop P (ss 0).n g (ss i) (fun x => x = ss (i + 1)) := by
  have hl := h.len
  refine ⟨gs[i]'(by omega), List.getElem?_eq_getElem _, ?_, h.step i _ hi (List.getElem?_eq_getElem _)⟩
  simp [dstL, List.getElem?_eq_getElem (show i < gs.length by omega)]

theorem Seqn.shape {P : Program} (h : Seqn P gs n ss) {i : Nat} (hi : i < n) : ∃ r ν, ss (i + 1) = ((ss i).new ν).put (dstL gs i) r := by
  obtain ⟨g, _, h2, h3⟩ := h.at hi
  rw [h2]
  exact vdop_shape h3

theorem Seqn.n_le {P : Program} (h : Seqn P gs n ss) : ∀ d i, i + d ≤ n → (ss i).n ≤ (ss (i + d)).n
  | 0, i, _ => Nat.le_refl _
  | d + 1, i, hd => by
    have h1 := h.n_le d i (by omega)
    obtain ⟨r, ν, e⟩ := h.shape (i := i + d) (by omega)
    have h2 : (ss (i + d + 1)).n = (ss (i + d)).n + ν.length := by rw [e, (put_σ _ _ _).2, new_n]
    show (ss i).n ≤ (ss (i + d + 1)).n
    omega

theorem Seqn.n_le' {P : Program} (h : Seqn P gs n ss) {i j : Nat} (hij : i ≤ j) (hj : j ≤ n) : (ss i).n ≤ (ss j).n := by
  have := h.n_le (j - i) i (by omega)
  rwa [show i + (j - i) = j by omega] at this

theorem Seqn.labs {P : Program} (h : Seqn P gs n ss) : ∀ i, i ≤ n → ∀ l x, look (ss i).σ l = some x → l < (ss i).n
  | 0, _ => h.lab
  | i + 1, hi => by
    obtain ⟨r, ν, e⟩ := h.shape (i := i) (by omega)
    intro l x hx
    rw [e, (put_σ _ _ _).1] at hx
    rw [e, (put_σ _ _ _).2, new_n]
    exact new_lab ν _ (h.labs i (by omega)) l x hx

theorem Seqn.σ_le {P : Program} (h : Seqn P gs n ss) : ∀ d i, i + d ≤ n → ∀ l x, look (ss i).σ l = some x → look (ss (i + d)).σ l = some x
  | 0, i, _, l, x, hx => hx
  | d + 1, i, hd, l, x, hx => by
    have h1 := h.σ_le d i (by omega) l x hx
    obtain ⟨r, ν, e⟩ := h.shape (i := i + d) (by omega)
    show look (ss (i + d + 1)).σ l = some x
    rw [e, (put_σ _ _ _).1]
    exact (new_look ν _ l x (h.labs (i + d) (by omega) l x h1)).2 h1

theorem Seqn.σ_end {P : Program} (h : Seqn P gs n ss) {i : Nat} (hi : i ≤ n) {l : Nat} {x : Bx} (hx : look (ss i).σ l = some x) : look (ss n).σ l = some x := by
  have := h.σ_le (n - i) i (by omega) l x hx
  rwa [show i + (n - i) = n by omega] at this

theorem Seqn.stay {P : Program} (h : Seqn P gs n ss) {x : Nat} : ∀ d i, i + d ≤ n → (∀ k, i ≤ k → k < i + d → dstL gs k ≠ some x) → (ss (i + d)).get x = (ss i).get x
  | 0, i, _, _ => rfl
  | d + 1, i, hd, hk => by
    have h1 := h.stay d i (by omega) fun k h1 h2 => hk k h1 (by omega)
    obtain ⟨r, ν, e⟩ := h.shape (i := i + d) (by omega)
    show (ss (i + d + 1)).get x = _
    rw [e, get_put, if_neg (hk (i + d) (by omega) (by omega)), new_get, h1]

theorem Seqn.stay' {P : Program} (h : Seqn P gs n ss) {x i j : Nat} (hij : i ≤ j) (hj : j ≤ n) (hk : ∀ k, i ≤ k → k < j → dstL gs k ≠ some x) : (ss j).get x = (ss i).get x := by
  have := h.stay (x := x) (j - i) i (by omega) fun k h1 h2 => hk k h1 (by omega)
  rwa [show i + (j - i) = j by omega] at this

open Classical in
/-- The temporaries when some operations have run. -/
noncomputable def TX (gs : List GO) (n : Nat) (ss : Nat → St) (listed : Array Bool) (x : Nat) : AV :=
  if ∃ j, j < n ∧ listed.getD j false = true ∧ dstL gs j = some x then (ss n).get x else (ss 0).get x

/-- The labels that are in use then. -/
def DX (n : Nat) (ss : Nat → St) (listed : Array Bool) (l : Nat) : Prop :=
  l < (ss 0).n ∨ ∃ i, i < n ∧ listed.getD i false = true ∧ (ss i).n ≤ l ∧ l < (ss (i + 1)).n

theorem F2.at {α β : Type} {R : α → β → Prop} : ∀ {xs : List α} {ys : List β}, F2 R xs ys → ∀ {i : Nat} {x : α}, xs[i]? = some x → ∃ y, ys[i]? = some y ∧ R x y
  | _, _, .nil, i, x, h => by simp at h
  | _, _, .cons h hr, 0, x, hx => by
    simp at hx
    subst hx
    exact ⟨_, rfl, h⟩
  | _, _, .cons h hr, i + 1, x, hx => by simpa using F2.at hr (i := i) (by simpa using hx)

def First (C : Cx) (gs : List GO) (n : Nat) (ss : Nat → St) (listed : Array Bool) (a : Act) (w : World) : Prop :=
  (∀ i, n ≤ i → listed.getD i false = false) ∧ ∃ M ρ, SatF C (DX n ss listed) (TX gs n ss listed) (look (ss n).σ) a w M ρ

def Second (C : Cx) (ops : Array Oper) (gs : List GO) (n : Nat) (K : St → Prop) (listed : Array Bool) (a : Act) (w : World) : Prop :=
  ∃ m s, n ≤ m ∧ m ≤ ops.size ∧ (∀ i, i < m → listed.getD i false = true) ∧ (∀ i, m ≤ i → listed.getD i false = false) ∧ Sat C s a w ∧ vops C.P (gs.drop m) s K

theorem cover {ss : Nat → St} {l : Nat} : ∀ n, l < (ss n).n → l < (ss 0).n ∨ ∃ i, i < n ∧ (ss i).n ≤ l ∧ l < (ss (i + 1)).n
  | 0, h => .inl h
  | n + 1, h => by
    by_cases hl : l < (ss n).n
    · rcases cover n hl with h | ⟨i, h1, h2⟩
      · exact .inl h
      · exact .inr ⟨i, by omega, h2⟩
    · exact .inr ⟨n, by omega, by omega, h⟩

theorem turn {K : St → Prop} {listed : Array Bool} {a : Act} {w : World} (hk : DrawOK ops gs n) (hq : Seqn C.P gs n ss) (hv : vops C.P (gs.drop n) (ss n) K)
    (hn0 : C.N0 ≤ (ss 0).n) (hn : ∀ i, i < n → listed.getD i false = true) (h : First C gs n ss listed a w) : Second C ops gs n K listed a w := by
  obtain ⟨h2, M, ρ, hs⟩ := h
  refine ⟨n, ss n, Nat.le_refl _, hk.le, hn, h2, ⟨M, ρ, hs.toAt ?_ ?_ (fun _ => rfl) (hq.labs n (Nat.le_refl _)) (Nat.le_trans hn0 (hq.n_le' (Nat.zero_le _) (Nat.le_refl _)))⟩, hv⟩
  · intro l
    unfold DX
    constructor
    · rintro (h | ⟨i, h1, _, _, h4⟩)
      · exact Nat.lt_of_lt_of_le h (hq.n_le' (Nat.zero_le _) (Nat.le_refl _))
      · exact Nat.lt_of_lt_of_le h4 (hq.n_le' h1 (Nat.le_refl _))
    · intro h
      rcases cover n h with h | ⟨i, h1, h2⟩
      · exact .inl h
      · exact .inr ⟨i, h1, hn i h1, h2⟩
  · intro x
    unfold TX
    split
    · rfl
    · rename_i hne
      exact (hq.stay' (Nat.zero_le _) (Nat.le_refl _) fun k _ hkn hd => hne ⟨k, hkn, hn k hkn, hd⟩).symm

/-- One operation of the first part. -/
theorem first_step {listed : Array Bool} {a : Act} {w : World} {i : Nat} {o : Oper} {g : GO} (hk : DrawOK ops gs n) (hq : Seqn C.P gs n ss) (hsz : listed.size = ops.size) (hi : i < n) (hil : listed.getD i false = false)
    (hr : ∀ j ∈ aft ops i, listed.getD j false = true) (hcl : ∀ i, i < ops.size → listed.getD i false = true → ∀ j ∈ aft ops i, listed.getD j false = true) (hgi : gs[i]? = some g) (hg : GOok C.P C.N ops o g) (h : First C gs n ss listed a w) (Kw : Act → World → Prop) (Q : Exit → Act → World → Prop)
    (hKw : ∀ a' w', First C gs n ss (listed.setIfInBounds i true) a' w' → Kw a' w') : if Region.wanted o (yielded ops a.tmps) then owp C o a w Kw Q else Kw (a.put o.dst undef) w := by
  obtain ⟨h2, M, ρ, hs⟩ := h
  have hin : i < listed.size := by have := hk.le; omega
  have hdst : dstL gs i = o.dst := by
    rw [← hg.parts.1]
    simp [dstL, hgi]
  refine fstep hs (fun l hl => .inl hl) (hq.n_le' (Nat.zero_le _) (by omega)) hg (hq.step i g hi hgi) ?_ (fun l x hx => hq.σ_end hi hx) (hq.labs i (by omega)) ?_ Kw Q ?_
  · intro x hx
    unfold TX
    split
    · rename_i he
      obtain ⟨j, hj, hjl, hjd⟩ := he
      rcases hk.reads i g hi hgi x hx j hj hjd with ⟨_, hji⟩ | ⟨_, d, hre⟩
      · exact hq.stay' (by omega) (Nat.le_refl _) fun k h1 h2 hd => hk.dist j k x (by omega) h2 hjd hd
      · rw [reach_ok hcl d j i hre hjl] at hil
        cases hil
    · rename_i hne
      refine (hq.stay' (Nat.zero_le _) (by omega) fun k _ hkn hd => ?_).symm
      rcases hk.reads i g hi hgi x hx k (by omega) hd with ⟨h1, _⟩ | ⟨h1, _⟩
      · exact hne ⟨k, by omega, hr k h1, hd⟩
      · omega
  · intro hlt hD
    unfold DX at hD
    rcases hD with hD | ⟨j, h1, h2, h3, h4⟩
    · have := hq.n_le' (i := 0) (j := i) (by omega) (by omega)
      omega
    · by_cases e : j = i
      · subst e
        rw [hil] at h2
        cases h2
      · by_cases hji : j < i
        · have := hq.n_le' (i := j + 1) (j := i) (by omega) (by omega)
          omega
        · have := hq.n_le' (i := i + 1) (j := j) (by omega) (by omega)
          omega
  · intro a' w' M' ρ' hs'
    refine hKw a' w' ⟨fun j hj => ?_, M', ρ', ?_⟩
    · rw [getD_set' hin, if_neg (by omega)]
      exact h2 j hj
    · have eD : DX n ss (listed.setIfInBounds i true) = fun l => DX n ss listed l ∨ ((ss i).n ≤ l ∧ l < (ss (i + 1)).n) := by
        funext l
        unfold DX
        apply propext
        constructor
        · rintro (h | ⟨j, h1, h2, h3⟩)
          · exact .inl (.inl h)
          · rw [getD_set' hin] at h2
            by_cases e : i = j
            · subst e
              exact .inr h3
            · rw [if_neg e] at h2
              exact .inl (.inr ⟨j, h1, h2, h3⟩)
        · rintro ((h | ⟨j, h1, h2, h3⟩) | h)
          · exact .inl h
          · refine .inr ⟨j, h1, ?_, h3⟩
            rw [getD_set' hin]
            split
            · rfl
            · exact h2
          · exact .inr ⟨i, hi, by rw [getD_set' hin]; simp, h⟩
      have eT : TX gs n ss (listed.setIfInBounds i true) = fun x => if o.dst = some x then (ss (i + 1)).get x else TX gs n ss listed x := by
        funext x
        by_cases e : o.dst = some x
        · rw [if_pos e]
          unfold TX
          rw [if_pos ⟨i, hi, by rw [getD_set' hin]; simp, hdst.trans e⟩]
          exact hq.stay' (by omega) (Nat.le_refl _) fun k h1 h2 hd => hk.dist i k x (by omega) h2 (hdst.trans e) hd
        · rw [if_neg e]
          unfold TX
          have : (∃ j, j < n ∧ (listed.setIfInBounds i true).getD j false = true ∧ dstL gs j = some x) ↔ (∃ j, j < n ∧ listed.getD j false = true ∧ dstL gs j = some x) := by
            constructor
            · rintro ⟨j, h1, h2, h3⟩
              rw [getD_set' hin] at h2
              by_cases eij : i = j
              · subst eij
                exact absurd (hdst.symm.trans h3) e
              · rw [if_neg eij] at h2
                exact ⟨j, h1, h2, h3⟩
            · rintro ⟨j, h1, h2, h3⟩
              refine ⟨j, h1, ?_, h3⟩
              rw [getD_set' hin]
              split
              · rfl
              · exact h2
          simp only [this]
      rw [eD, eT]
      exact hs'

theorem draw_any (hCy : C.Y) {md : Region.Mode} {K : St → Prop} {Q : Exit → Act → World → Prop} {os : List Oper} (ho : os.toArray = ops) (hG : F2 (GOok C.P C.N ops) os gs) (hk : DrawOK ops gs n) (hq : Seqn C.P gs n ss) (hn0 : C.N0 ≤ (ss 0).n) (hv : vops C.P (gs.drop n) (ss n) K)
    (hQ : ∀ s' a' w', K s' → Sat C s' a' w' → Q .normal a' w') : ∀ (fuel : Nat) (listed : Array Bool) (a : Act) (w : World), fuel = left listed → listed.size = ops.size →
    (∀ i, i < ops.size → listed.getD i false = true → ∀ j ∈ aft ops i, listed.getD j false = true) → First C gs n ss listed a w ∨ Second C ops gs n K listed a w → wpAnyIn C.F 0 C.P md ops Q fuel listed a w := by
  have hGat : ∀ i, i < ops.size → ∃ o g, ops[i]? = some o ∧ gs[i]? = some g ∧ GOok C.P C.N ops o g := by
    intro i hi
    have hi' : i < os.length := by rw [← ho] at hi; simpa using hi
    obtain ⟨g, h1, h2⟩ := F2.at hG (List.getElem?_eq_getElem hi')
    refine ⟨os[i], g, ?_, h1, h2⟩
    rw [← ho]
    simp [hi']
  intro fuel
  induction fuel with
  | zero =>
    intro listed a w hf hsz hc hinv
    have all : ∀ i, i < ops.size → listed.getD i false = true := fun i hi => left_zero hf.symm i (by omega)
    have h2 : Second C ops gs n K listed a w := by
      rcases hinv with h | h
      · exact turn hk hq hv hn0 (fun i hi => all i (by have := hk.le; omega)) h
      · exact h
    refine ⟨?_, ?_⟩
    · apply List.eq_nil_iff_forall_not_mem.2
      intro i hi
      have hi := ready_of hi
      have := all i hi.1
      rw [← getD_tf (by omega)] at this
      rw [hi.2.1] at this
      cases this
    · obtain ⟨m, s, hn, hm, h1, h2, hs, hv'⟩ := h2
      have em : m = ops.size := by
        refine Classical.byContradiction fun hne => ?_
        have h3 := h2 m (Nat.le_refl _)
        rw [all m (by omega)] at h3
        cases h3
      subst em
      rw [List.drop_of_length_le (by rw [hk.len]; exact Nat.le_refl _)] at hv'
      exact hQ s a w hv' hs
  | succ fuel ih =>
    intro listed a w hf hsz hc hinv
    refine ⟨fun hnil => ?_, fun i hi => ?_⟩
    · exfalso
      have hex : ∃ i, i < ops.size ∧ listed.getD i false = false := by
        refine Classical.byContradiction fun hne => ?_
        have : left listed = 0 := by
          unfold left
          apply List.count_eq_zero.2
          intro hm
          obtain ⟨i, hi, he⟩ := List.mem_iff_getElem.1 hm
          refine hne ⟨i, by rw [← hsz]; simpa using hi, ?_⟩
          have hi' : i < listed.size := by simpa using hi
          rw [Array.getD_eq_getD_getElem?, Array.getElem?_eq_getElem hi']
          simpa using he
        omega
      obtain ⟨rk, hrk⟩ := hk.rank md
      have hex2 : ∃ m, ∃ i, i < ops.size ∧ listed.getD i false = false ∧ rk i = m := by
        obtain ⟨i, h1, h2⟩ := hex
        exact ⟨rk i, i, h1, h2, rfl⟩
      obtain ⟨m, ⟨i, hi, hil, hm⟩, hmin⟩ := least_ex' hex2
      have : i ∈ Region.ready md ops listed := by
        refine ready_to (Array.getElem?_eq_getElem hi) (by rw [getD_tf (by omega)]; exact hil) fun e he hb => ?_
        obtain ⟨h1, h2⟩ := hrk i _ (Array.getElem?_eq_getElem hi) e he hb
        cases hb : listed.getD e.on false with
        | true => rfl
        | false =>
          have := hmin (rk e.on) ⟨e.on, h1, hb, rfl⟩
          omega
      rw [hnil] at this
      cases this
    · obtain ⟨hisz, hil, hr⟩ := ready_of hi
      rw [getD_tf (by omega)] at hil
      have hin : i < listed.size := by omega
      obtain ⟨o, g, ho', hg', hok⟩ := hGat i hisz
      have hf' : fuel = left (listed.setIfInBounds i true) := by
        have := left_set hin (by rw [getD_tf hin]; exact hil)
        omega
      have hsz' : (listed.setIfInBounds i true).size = ops.size := by simp [hsz]
      have hc' : ∀ j, j < ops.size → (listed.setIfInBounds i true).getD j false = true → ∀ k ∈ aft ops j, (listed.setIfInBounds i true).getD k false = true := by
        intro j hj hjl k hk'
        rw [getD_set' hin] at hjl ⊢
        by_cases e : i = j
        · subst e
          split
          · rfl
          · exact hr k hk'
        · rw [if_neg e] at hjl
          split
          · rfl
          · exact hc j hj hjl k hk'
      have goal : ∀ {Kw : Act → World → Prop}, (∀ a' w', First C gs n ss (listed.setIfInBounds i true) a' w' ∨ Second C ops gs n K (listed.setIfInBounds i true) a' w' → Kw a' w') → wpOpIn C.F 0 C.P ops Q i Kw a w := by
        intro Kw hKw
        unfold wpOpIn
        rw [ho']
        simp only []
        have sec : Second C ops gs n K listed a w → if Region.wanted o (yielded ops a.tmps) then owp C o a w Kw Q else Kw (a.put o.dst undef) w := by
          rintro ⟨m, s, hn, hm, h1, h2, ⟨M, ρ, hs⟩, hv'⟩
          have him : i = m := by
            refine Classical.byContradiction fun hne => ?_
            by_cases hlt : i < m
            · rw [h1 i hlt] at hil
              cases hil
            · have := chain_all hk hc (show n ≤ i by omega) hisz hr (i - m) m (by omega) (by omega)
              rw [h2 m (Nat.le_refl _)] at this
              cases this
          subst him
          have hd : gs.drop i = g :: gs.drop (i + 1) := by
            have hil' : i < gs.length := by rw [hk.len]; exact hisz
            rw [List.drop_eq_getElem_cons hil']
            rw [List.getElem?_eq_getElem hil'] at hg'
            cases hg'
            rfl
          rw [hd] at hv'
          refine vop_step hCy hs hok (by simpa only [vops] using hv') Kw Q fun s' a' w' hk' hs' => hKw a' w' (.inr ⟨i + 1, s', by omega, by omega, fun j hj => ?_, fun j hj => ?_, hs', hk'⟩)
          · rw [getD_set' hin]
            split
            · rfl
            · exact h1 j (by omega)
          · rw [getD_set' hin, if_neg (by omega)]
            exact h2 j (by omega)
        have fin : if Region.wanted o (yielded ops a.tmps) then owp C o a w Kw Q else Kw (a.put o.dst undef) w := by
          rcases hinv with h | h
          · by_cases hlt : i < n
            · exact first_step hk hq hsz hlt hil hr hc hg' hok h Kw Q fun a' w' h' => hKw a' w' (.inl h')
            · exact sec (turn hk hq hv hn0 (fun j hj => chain_all hk hc (show n ≤ i by omega) hisz hr (i - j) j (by omega) (by omega)) h)
          · exact sec h
        split
        · rename_i hw
          rw [if_pos hw] at fin
          exact owp_in hok fin
        · rename_i hw
          rw [if_neg hw] at fin
          exact ⟨fun _ _ => trivial, fin⟩
      exact goal fun a' w' h => ih _ a' w' hf' hsz' hc' h

theorem first_init {a : Act} {w : World} {M : Nat → Prop} {ρ : Nat → Option Nat} {os : List Oper} (hs' : SatAt C (ss 0) a w M ρ) (hq : Seqn C.P gs n ss) :
    ∃ M ρ, SatF C (DX n ss (Array.replicate os.toArray.size false)) (TX gs n ss (Array.replicate os.toArray.size false)) (look (ss n).σ) a w M ρ := by
  obtain ⟨ρ', hF⟩ := hs'.toF
  have none : ∀ j : Nat, ¬ (Array.replicate os.toArray.size false).getD j false = true := by
    intro j h
    rw [Array.getD_eq_getD_getElem?, Array.getElem?_replicate] at h
    split at h <;> simp at h
  have eD : DX n ss (Array.replicate os.toArray.size false) = fun l => l < (ss 0).n := by
    funext l
    unfold DX
    apply propext
    constructor
    · rintro (h | ⟨j, _, h, _⟩)
      · exact h
      · exact absurd h (none j)
    · exact .inl
  have eT : TX gs n ss (Array.replicate os.toArray.size false) = (ss 0).get := by
    funext x
    unfold TX
    rw [if_neg]
    rintro ⟨j, _, h, _⟩
    exact none j h
  refine ⟨M, ρ', ?_⟩
  rw [eD, eT]
  have up : ∀ {l x}, l < (ss 0).n → look (ss n).σ l = some x → look (ss 0).σ l = some x := by
    intro l x hl hx
    have : ∀ i, i ≤ n → look (ss i).σ l = some x → look (ss 0).σ l = some x := by
      intro i
      induction i with
      | zero => exact fun _ h => h
      | succ i ih =>
        intro hi h
        refine ih (by omega) ?_
        obtain ⟨r, ν, e⟩ := hq.shape (i := i) (by omega)
        rw [e, (put_σ _ _ _).1] at h
        exact (new_look ν _ l x (Nat.lt_of_lt_of_le hl (hq.n_le' (Nat.zero_le _) (by omega)))).1 h
    exact this n (Nat.le_refl _) hx
  have hex : Ex C (SgF (fun l => l < (ss 0).n) (look (ss n).σ) ρ') (YsF (fun l => l < (ss 0).n) (look (ss n).σ)) w M a.defers :=
    hF.ex.step (Fr.refl _ fun _ => False) (fun _ hb => hb.elim) hF.fr.size (fun b hb => .inl hb) (fun b hb => .inl hb) (fun b ⟨l, x, hD, hx, hb⟩ => ⟨BxOK.lt (k := ⟨w, M, ρ'⟩) (hF.boxes l x hD (up hD hx)) hb, .inl ⟨l, x, hD, up hD hx, hb⟩⟩) fun l b y hy => ⟨hy.1, up hy.1 hy.2⟩
  exact ⟨hF.tmps, fun l x hl hx => hF.boxes l x hl (up hl hx), hF.none, fun l l' x x' b h1 h2 h3 h4 => hF.inj l l' x x' b h1 h2 (up h1 h3) (up h2 h4), hF.fr, hF.mlt, hF.foreign, fun l x b h1 h2 => hF.own l x b h1 (up h1 h2), hF.size, hex, hF.d0, hF.ag0⟩

theorem draw_ok (hCy : C.Y) {id : Nat} {K : St → Prop} {Q : Exit → Act → World → Prop} {os : List Oper} {s : St} {a : Act} {w : World} (hG : F2 (GOok C.P C.N os.toArray) os gs) (hk : DrawOK os.toArray gs n)
    (hs : Sat C s a w) (hv : vdops C.P s.n (gs.take n) s fun s' => vops C.P (gs.drop n) s' K) (hQ : ∀ s' a' w', K s' → Sat C s' a' w' → Q .normal a' w') : (Code.region id os.toArray true).wpIn C.F 0 C.P Q a w := by
  obtain ⟨M, ρ, hs⟩ := hs
  have hs' : SatAt C s a { w with drawn := w.drawn + 1 } M ρ := SatAt.grow hs (Fr.drew w _ _ (Nat.le_succ _))
  obtain ⟨ss, e0, hK, hst⟩ := vdops_seq hv
  have hlen : (gs.take n).length = n := by
    rw [List.length_take, hk.len]
    have := hk.le
    omega
  rw [hlen] at hK
  subst e0
  have hq : Seqn C.P gs n ss := ⟨fun i g hi hg => hst i g (by rw [List.getElem?_take, if_pos hi]; exact hg), hs.lab, by rw [hk.len]; exact hk.le⟩
  have any : ∀ md, wpAnyIn C.F 0 C.P md os.toArray Q os.toArray.size (Array.replicate os.toArray.size false) a { w with drawn := w.drawn + 1 } := by
    intro md
    refine draw_any hCy rfl hG hk hq hs.n0 hK hQ _ _ _ _ ?_ (by simp) ?_ (.inl ⟨fun i hi => ?_, ?_⟩)
    · unfold left
      simp
    · intro i hi h
      rw [Array.getD_eq_getD_getElem?, Array.getElem?_replicate] at h
      split at h <;> simp at h
    · rw [Array.getD_eq_getD_getElem?, Array.getElem?_replicate]
      split <;> rfl
    · exact first_init hs' hq
  refine wpIn_region_draw fun t => ?_
  unfold Region.schedule
  split
  · exact wpAnyIn_sound _ _ _ _ _ (any _)
  · exact wpAnyIn_sound _ _ _ _ _ (any _)
end
end Go.QL
