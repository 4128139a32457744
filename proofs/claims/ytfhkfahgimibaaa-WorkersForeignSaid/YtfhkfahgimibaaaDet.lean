/- The evaluator's value does not hang on what is asked of it. -/
import Derived.Test.YtfhkfahgimibaaaCode
namespace Go.QL

theorem strip_det {c : Bool} {K : AV → Prop} : ∀ {x : AV}, strip c x K → ∃ z, K z ∧ ∀ K' : AV → Prop, K' z → strip c x K'
  | .gd d u, h => by
    simp only [strip] at h
    obtain ⟨z, h1, h2⟩ := strip_det h.2
    exact ⟨z, h1, fun K' hk => by simp only [strip]; exact ⟨h.1, h2 K' hk⟩⟩
  | .vl _, h => ⟨_, by simpa [strip] using h, fun K' hk => by simpa [strip] using hk⟩
  | .any, h => ⟨_, by simpa [strip] using h, fun K' hk => by simpa [strip] using hk⟩
  | .ce, h => ⟨_, by simpa [strip] using h, fun K' hk => by simpa [strip] using hk⟩
  | .sl _, h => ⟨_, by simpa [strip] using h, fun K' hk => by simpa [strip] using hk⟩
  | .dp _, h => ⟨_, by simpa [strip] using h, fun K' hk => by simpa [strip] using hk⟩
  | .ptr _ _, h => ⟨_, by simpa [strip] using h, fun K' hk => by simpa [strip] using hk⟩
  | .agg _, h => ⟨_, by simpa [strip] using h, fun K' hk => by simpa [strip] using hk⟩
  | .tup _, h => ⟨_, by simpa [strip] using h, fun K' hk => by simpa [strip] using hk⟩
  | .fn _ _ _, h => ⟨_, by simpa [strip] using h, fun K' hk => by simpa [strip] using hk⟩
  | .osl _ _ _ _ _, h => ⟨_, by simpa [strip] using h, fun K' hk => by simpa [strip] using hk⟩
  | .mp _, h => ⟨_, by simpa [strip] using h, fun K' hk => by simpa [strip] using hk⟩
  | .imp _, h => ⟨_, by simpa [strip] using h, fun K' hk => by simpa [strip] using hk⟩

theorem binInt_det {c : Bool} {op : BinOp} {k : IntKind} {a b : Int} {K : AV → Prop} (h : binInt c op k a b K) : ∃ z, K z ∧ ∀ K' : AV → Prop, K' z → binInt c op k a b K' := by
  cases op <;> simp only [binInt] at h ⊢ <;> first
    | exact h.elim
    | exact ⟨_, h, fun _ hk => hk⟩
    | exact ⟨_, h.2, fun _ hk => ⟨h.1, hk⟩⟩
    | (by_cases hk : k = .i64
       · rw [if_pos hk] at h
         exact ⟨_, h.2, fun _ h' => by rw [if_pos hk]; exact ⟨h.1, h'⟩⟩
       · rw [if_neg hk] at h
         first
           | exact ⟨_, h, fun _ h' => by rw [if_neg hk]; exact h'⟩
           | exact ⟨_, h.2, fun _ h' => by rw [if_neg hk]; exact ⟨h.1, h'⟩⟩)

theorem binV_det {c : Bool} {op : BinOp} {x y : AV} {K : AV → Prop} (h : binV c op x y K) : ∃ z, K z ∧ ∀ K' : AV → Prop, K' z → binV c op x y K' := by
  unfold binV at h ⊢
  split at h
  · exact ⟨_, h.2, fun _ hk => ⟨h.1, hk⟩⟩
  · exact ⟨_, h.2, fun _ hk => ⟨h.1, hk⟩⟩
  · rename_i h1 h2
    obtain ⟨z, hz, hz'⟩ := binInt_det h.2
    refine ⟨z, hz, fun K' hk => ?_⟩
    exact ⟨h.1, hz' K' hk⟩
  · exact ⟨_, h, fun _ hk => hk⟩
  · exact ⟨_, h, fun _ hk => hk⟩
  · exact h.elim

theorem fillV_det {g : Operand → AV} {c : Bool} : ∀ {ps : List (Nat × Nat × Operand)} {z : List AV} {K : List AV → Prop}, fillV g c z ps K → ∃ r, K r ∧ ∀ K' : List AV → Prop, K' r → fillV g c z ps K'
  | [], z, K, h => ⟨z, h, fun _ hk => hk⟩
  | (off, n, x) :: ps, z, K, h => by
    simp only [fillV] at h
    obtain ⟨y, h1, h2⟩ := strip_det h
    obtain ⟨r, h3, h4⟩ := fillV_det h1.2
    exact ⟨r, h3, fun K' hk => by simp only [fillV]; exact h2 _ ⟨h1.1, h4 K' hk⟩⟩

theorem eqC_det {c : Bool} : ∀ {ks : List Nat} {xs ys : List AV} {K : Bool → Prop}, eqC c ks xs ys K → ∃ z, K z ∧ ∀ K' : Bool → Prop, K' z → eqC c ks xs ys K'
  | [], [], [], K, h => ⟨true, by simpa [eqC] using h, fun _ hk => by simpa [eqC] using hk⟩
  | [], [], _ :: _, K, h => by simp [eqC] at h
  | [], _ :: _, _, K, h => by simp [eqC] at h
  | q :: ks, [], _, K, h => by cases q <;> simp [eqC] at h
  | q :: ks, _ :: _, [], K, h => by cases q <;> simp [eqC] at h
  | q :: ks, x :: xs, y :: ys, K, h => by
    simp only [eqC] at h
    obtain ⟨x', h, hx⟩ := strip_det h
    obtain ⟨y', h, hy⟩ := strip_det h
    unfold eqS at h
    split at h
    · obtain ⟨z, h1, h2⟩ := eqC_det h.2
      exact ⟨_, h1, fun K' hk => by simp only [eqC]; exact hx _ (hy _ (by unfold eqS; exact ⟨h.1, h2 _ hk⟩))⟩
    · obtain ⟨z, h1, h2⟩ := eqC_det h
      exact ⟨_, h1, fun K' hk => by simp only [eqC]; exact hx _ (hy _ (by unfold eqS; exact h2 _ hk))⟩
    · obtain ⟨z, h1, h2⟩ := eqC_det h
      exact ⟨_, h1, fun K' hk => by simp only [eqC]; exact hx _ (hy _ (by unfold eqS; exact h2 _ hk))⟩
    · exact h.elim

theorem slcB_det {g : Operand → AV} {c : Bool} {lo : Option Operand} {d : Int} {K : Int → Prop} (h : slcB g c lo d K) : ∃ z, K z ∧ ∀ K' : Int → Prop, K' z → slcB g c lo d K' := by
  unfold slcB at h ⊢
  split at h
  · exact ⟨_, h, fun _ h => h⟩
  · obtain ⟨z, h, hz⟩ := strip_det h
    split at h
    · exact ⟨_, h, fun _ hk => hz _ hk⟩
    · exact h.elim

theorem lkpE_det {c ok : Bool} {ks : List Nat} {z : Value} {es : List (Value × AV)} {y : AV} {K : AV → Prop} (h : lkpE c ks ok z es y K) : ∃ r, K r ∧ ∀ K' : AV → Prop, K' r → lkpE c ks ok z es y K' := by
  unfold lkpE at h ⊢
  split at h
  · obtain ⟨h1, r, h2, h3⟩ := h
    exact ⟨_, h3, fun K' hk => ⟨h1, r, h2, hk⟩⟩
  · exact h.elim

theorem qv_det {c : Bool} {m : MO} {g : Operand → AV} {σ : Nat → Option Bx} {l : Nat} {K : AV → List Bx → Prop} (h : qv c m g σ l K) :
    ∃ r ν, K r ν ∧ ∀ K' : AV → List Bx → Prop, K' r ν → qv c m g σ l K' := by
  cases m <;> simp only [qv] at h ⊢
  case mv => exact ⟨_, _, h, fun _ hk => hk⟩
  case pick =>
    obtain ⟨z, h, hz⟩ := strip_det h
    split at h
    · obtain ⟨A, h, hA⟩ := strip_det h
      obtain ⟨B, h, hB⟩ := strip_det h
      split at h
      · exact ⟨_, _, h, fun _ hk => hz _ (hA _ (hB _ hk))⟩
      · exact h.elim
    · exact h.elim
  case alloc => exact ⟨_, _, h, fun _ hk => hk⟩
  case beqs =>
    obtain ⟨x, h, hx⟩ := strip_det h
    obtain ⟨y, h, hy⟩ := strip_det h
    obtain ⟨z, h1, h2⟩ := eqC_det h.2
    exact ⟨_, _, h1, fun _ hk => hx _ (hy _ ⟨h.1, h2 _ hk⟩)⟩
  case mks =>
    obtain ⟨x, h, hx⟩ := strip_det h
    obtain ⟨y, h, hy⟩ := strip_det h
    split at h
    · exact ⟨_, _, h.2, fun _ hk => hx _ (hy _ ⟨h.1, hk⟩)⟩
    · exact h.elim
  case slc =>
    obtain ⟨x, h, hx⟩ := strip_det h
    split at h
    · obtain ⟨a, h, ha⟩ := slcB_det h
      obtain ⟨b, h, hb⟩ := slcB_det h
      obtain ⟨m, h, hm⟩ := slcB_det h
      exact ⟨_, _, h.2, fun _ hk => hx _ (ha _ (hb _ (hm _ ⟨h.1, hk⟩)))⟩
    · split at h
      · rename_i es hes
        obtain ⟨a, h, ha⟩ := slcB_det h
        obtain ⟨b, h, hb⟩ := slcB_det h
        obtain ⟨m, h, hm⟩ := slcB_det h
        exact ⟨_, _, h.2, fun _ hk => hx _ (by simp only [hes]; exact ha _ (hb _ (hm _ ⟨h.1, hk⟩)))⟩
      · exact h.elim
  case box =>
    obtain ⟨z, h, hz⟩ := strip_det h
    exact ⟨_, _, h.2, fun _ hk => hz _ ⟨h.1, hk⟩⟩
  case build =>
    obtain ⟨z, h, hz⟩ := fillV_det h
    exact ⟨_, _, h, fun _ hk => hz _ hk⟩
  case bsl =>
    obtain ⟨z, h, hz⟩ := fillV_det h
    exact ⟨_, _, h, fun _ hk => hz _ hk⟩
  case load =>
    obtain ⟨z, h, hz⟩ := strip_det h
    split at h
    · exact ⟨_, _, h.2, fun _ hk => hz _ ⟨h.1, hk⟩⟩
    · split at h
      · rename_i hs
        exact ⟨_, _, h.2, fun _ hk => hz _ (by simp only [hs]; exact ⟨h.1, hk⟩)⟩
      · exact h.elim
    · exact h.elim
  case bin =>
    obtain ⟨x, h, hx⟩ := strip_det h
    obtain ⟨y, h, hy⟩ := strip_det h
    obtain ⟨r, h, hr⟩ := binV_det h
    exact ⟨_, _, h, fun _ hk => hx _ (hy _ (hr _ hk))⟩
  case beq =>
    obtain ⟨x, h, hx⟩ := strip_det h
    obtain ⟨y, h, hy⟩ := strip_det h
    split at h
    · exact ⟨_, _, h, fun _ hk => hx _ (hy _ hk)⟩
    · exact h.elim
  case un =>
    obtain ⟨x, h, hx⟩ := strip_det h
    split at h
    · exact ⟨_, _, h, fun _ hk => hx _ hk⟩
    · rename_i kd n _
      by_cases hk : kd = .i64
      · rw [if_pos hk] at h
        exact ⟨_, _, h.2, fun _ h' => hx _ (by simp only [if_pos hk]; exact ⟨h.1, h'⟩)⟩
      · rw [if_neg hk] at h
        exact ⟨_, _, h, fun _ h' => hx _ (by simp only [if_neg hk]; exact h')⟩
    · exact h.elim
  case conv =>
    obtain ⟨x, h, hx⟩ := strip_det h
    split at h
    · exact ⟨_, _, h, fun _ hk => hx _ hk⟩
    · exact h.elim
  case faddr =>
    obtain ⟨x, h, hx⟩ := strip_det h
    split at h
    · exact ⟨_, _, h.2, fun _ hk => hx _ ⟨h.1, hk⟩⟩
    · exact ⟨_, _, h, fun _ hk => hx _ hk⟩
    · exact h.elim
  case iaddr =>
    obtain ⟨x, h, hx⟩ := strip_det h
    obtain ⟨i, h, hi⟩ := strip_det h
    split at h
    · split at h
      · exact ⟨_, _, h.2, fun _ hk => hx _ (hi _ ⟨h.1, hk⟩)⟩
      · split at h
        · rename_i h1 _ _ hs
          obtain ⟨ha, hb⟩ := h
          refine ⟨_, _, hb, fun _ hk => hx _ (hi _ ?_)⟩
          cases x with
          | osl => exact (h1 _ _ _ _ _ rfl).elim
          | _ =>
            simp only [hs]
            exact ⟨ha, hk⟩
        · exact h.elim
    · exact h.elim
  case aaddr =>
    obtain ⟨x, h, hx⟩ := strip_det h
    obtain ⟨i, h, hi⟩ := strip_det h
    split at h
    · split at h
      · exact ⟨_, _, h.2, fun _ hk => hx _ (hi _ ⟨h.1, hk⟩)⟩
      · exact ⟨_, _, h.2, fun _ hk => hx _ (hi _ ⟨h.1, hk⟩)⟩
      · exact h.elim
    · exact h.elim
  case idx =>
    obtain ⟨x, h, hx⟩ := strip_det h
    obtain ⟨i, h, hi⟩ := strip_det h
    split at h
    · split at h
      · exact ⟨_, _, h.2, fun _ hk => hx _ (hi _ ⟨h.1, hk⟩)⟩
      · exact h.elim
    · exact h.elim
  case len =>
    obtain ⟨x, h, hx⟩ := strip_det h
    split at h
    · exact ⟨_, _, h, fun _ hk => hx _ hk⟩
    · split at h
      · rename_i h1 _ _ hs
        refine ⟨_, _, h, fun _ hk => hx _ ?_⟩
        cases x with
        | osl => exact (h1 _ _ _ _ _ rfl).elim
        | _ =>
          simp only [hs]
          exact hk
      · exact h.elim
  case slen =>
    obtain ⟨x, h, hx⟩ := strip_det h
    split at h
    · exact ⟨_, _, h, fun _ hk => hx _ hk⟩
    · exact h.elim
  case ext =>
    obtain ⟨x, h, hx⟩ := strip_det h
    split at h
    · exact ⟨_, _, h.2, fun _ hk => hx _ ⟨h.1, hk⟩⟩
    · exact h.elim
  case lkp =>
    obtain ⟨x, h, hx⟩ := strip_det h
    split at h
    · split at h
      · rename_i hs
        obtain ⟨y, h, hy⟩ := strip_det h
        obtain ⟨r, h1, h2⟩ := lkpE_det h
        exact ⟨_, _, h1, fun _ hk => hx _ (by simp only [hs]; exact hy _ (h2 _ hk))⟩
      · exact h.elim
    · obtain ⟨y, h, hy⟩ := strip_det h
      obtain ⟨r, h1, h2⟩ := lkpE_det h
      exact ⟨_, _, h1, fun _ hk => hx _ (hy _ (h2 _ hk))⟩
    · exact h.elim
  case mkf => exact ⟨_, _, h, fun _ hk => hk⟩
  case mm =>
    obtain ⟨x, h, hx⟩ := strip_det h
    obtain ⟨y, h, hy⟩ := strip_det h
    split at h
    · exact ⟨_, _, h.2, fun _ hk => hx _ (hy _ ⟨h.1, hk⟩)⟩
    · exact h.elim
end Go.QL
