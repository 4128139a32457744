/- Code. -/
import Derived.Test.YtfhkfahgimibaaaRng2
namespace Go.QL

theorem list_ok {C : Cx} (hCy : C.Y) {ops : Array Oper} {Q : Exit → Act → World → Prop} : ∀ {os : List Oper} {gs : List GO} {s : St} {a : Act} {w : World} {K : St → Prop},
    F2 (GOok C.P C.N ops) os gs → Sat C s a w → vops C.P gs s K → (∀ s' a' w', K s' → Sat C s' a' w' → Q .normal a' w') → wpListIn C.F 0 C.P ops Q os a w
  | _, _, s, a, w, K, .nil, hs, hv, hQ => hQ _ _ _ hv hs
  | _, _, s, a, w, K, .cons h1 h2, hs, hv, hQ => by
    obtain ⟨M, ρ, hs⟩ := hs
    refine wpListIn_step fun K' hK' => ?_
    have := vop_step hCy hs h1 hv K' Q fun s' a' w' hk hs' => hK' a' w' (list_ok hCy h2 hs' hk hQ)
    split
    · rename_i hw
      rw [if_pos hw] at this
      exact owp_in h1 this
    · rename_i hw
      rw [if_neg hw] at this
      exact ⟨fun _ _ => trivial, this⟩

/-- How code is read. -/
inductive TrC (P : Program) (N : Nat) : Code → MC → Prop
  | skip : TrC P N .skip .skip
  | reg {id : Nat} {ops : List Oper} {gs : List GO} : F2 (GOok P N ops.toArray) ops gs → TrC P N (.region id ops.toArray false) (.reg gs)
  | draw {id : Nat} {ops : List Oper} {gs : List GO} {n : Nat} : F2 (GOok P N ops.toArray) ops gs → DrawOK ops.toArray gs n → TrC P N (.region id ops.toArray true) (.draw (gs.take n) (gs.drop n))
  | seq {a b : Code} {x y : MC} : TrC P N a x → TrC P N b y → TrC P N (.seq a b) (.seq x y)
  | cond {c : Operand} {a b : Code} {x y : MC} : TrC P N a x → TrC P N b y → TrC P N (.cond c a b) (.cond c x y)
  | block {id : Nat} {a : Code} {x : MC} : TrC P N a x → TrC P N (.block id a) (.block id x)
  | loop {a : Code} {x : MC} : TrC P N a x → TrC P N (.loop a) (.loop x)
  | exit {id : Nat} : TrC P N (.exit id) (.exit id)
  | ret : TrC P N .ret .ret
  | rng {g : Operand} {ps : Array Tmp} {a b : Code} {x y : MC} : (∀ p ∈ ps.toList, p < N) → x.flat = true → y.flat = true → TrC P N a x → TrC P N b y → TrC P N (.rangeFunc g ps a b) (.rng g ps.toList x y)

theorem least_ex {p : Nat → Prop} (h : ∃ m, p m) : ∃ m, p m ∧ ∀ m', p m' → m ≤ m' := by
  obtain ⟨m, hm⟩ := h
  induction m using Nat.strongRecOn with
  | _ m ih =>
    by_cases h : ∃ m', m' < m ∧ p m'
    · obtain ⟨m', h1, h2⟩ := h
      exact ih m' h1 h2
    · exact ⟨m, hm, fun m' h2 => Nat.le_of_not_lt fun h1 => h ⟨m', h1, h2⟩⟩

theorem wpIn_loop_n {F : Fence} {P : Program} {c : Code} {Q : Exit → Act → World → Prop} {a : Act} {w : World} (I : Nat → Act → World → Prop) (h0 : ∃ m, I m a w)
    (round : ∀ m a w, I m a w → c.wpIn F 0 P (Exit.then (fun a' w' => ∃ m', m' < m ∧ I m' a' w') Q) a w) : (Code.loop c).wpIn F 0 P Q a w := by
  classical
  let μ : Act → World → Nat := fun a w => if h : ∃ m, I m a w then Classical.choose (least_ex h) else 0
  have hμ : ∀ a w m, I m a w → I (μ a w) a w ∧ μ a w ≤ m := by
    intro a w m hm
    have h : ∃ m, I m a w := ⟨m, hm⟩
    simp only [μ, dif_pos h]
    exact ⟨(Classical.choose_spec (least_ex h)).1, (Classical.choose_spec (least_ex h)).2 m hm⟩
  refine wpIn_loop (fun a w => ∃ m, I m a w) μ h0 ?_
  rintro a w ⟨m, hm⟩
  refine wpIn_mono (round _ a w (hμ a w m hm).1) ?_
  intro e a' w' hq
  cases e with
  | normal =>
    obtain ⟨m', h1, h2⟩ := hq
    exact ⟨⟨m', h2⟩, Nat.lt_of_le_of_lt (hμ a' w' m' h2).2 h1⟩
  | _ => exact hq

/-- The evaluator is right about code. -/
theorem code_ok : ∀ {P : Program} {N : Nat} {c : Code} {m : MC}, TrC P N c m → ∀ {C : Cx}, C.P = P → C.N = N → C.Y → (m.flat = true ∨ (C.r = none ∧ ∀ y w X M, ¬ C.J y w X M)) → ∀ {s : St} {a : Act} {w : World} {Q : Exit → St → Prop}, Sat C s a w → vc C.P C.N0 m s Q →
    c.wpIn C.F 0 C.P (fun e a' w' => ∃ s', Q e s' ∧ Sat C s' a' w') a w
  | _, _, _, _, .skip, C, hP, hN, hY, hr, s, a, w, Q, hs, hv => wpIn_skip ⟨s, hv, hs⟩
  | _, _, _, _, .reg h, C, hP, hN, hY, hr, s, a, w, Q, hs, hv => by
    subst hP hN
    refine wpIn_region_lit (list_ok hY h hs (by simpa only [vc] using hv) ?_)
    intro s' a' w' hk hs'
    exact ⟨s', hk, hs'⟩
  | _, _, _, _, .draw h1 h2, C, hP, hN, hY, hr, s, a, w, Q, hs, hv => by
    subst hP hN
    exact draw_ok hY h1 h2 hs (by simpa only [vc] using hv) fun s' a' w' hk hs' => ⟨s', hk, hs'⟩
  | _, _, _, _, .seq h1 h2, C, hP, hN, hY, hr, s, a, w, Q, hs, hv => by
    rename_i x y X Y
    simp only [vc] at hv
    simp only [MC.flat, Bool.and_eq_true] at hr
    refine wpIn_seq (wpIn_mono (code_ok h1 hP hN hY (hr.imp_left (·.1)) hs hv) ?_)
    rintro e a' w' ⟨s', hq, hs'⟩
    cases e with
    | normal => exact code_ok h2 hP hN hY (hr.imp_left (·.2)) hs' hq
    | _ => exact ⟨s', hq, hs'⟩
  | _, _, _, _, .cond h1 h2, C, hP, hN, hY, hr, s, a, w, Q, hs, hv => by
    rename_i c x y X Y
    simp only [vc, CondO] at hv
    simp only [MC.flat, Bool.and_eq_true] at hr
    split at hv
    · rename_i p hp
      obtain ⟨M, ρ, hs⟩ := hs
      have hd := ev_den (hs.facts ρ fun _ _ => rfl) c
      rw [hp] at hd
      simp only [Den] at hd
      refine wpIn_cond_split hd (fun hp => ?_) (fun hp => ?_)
      · exact code_ok h1 hP hN hY (hr.imp_left (·.1)) ⟨M, ρ, hs⟩ (hv.1 hp)
      · exact code_ok h2 hP hN hY (hr.imp_left (·.2)) ⟨M, ρ, hs⟩ (hv.2 hp)
    · exact hv.elim
  | _, _, _, _, .block h, C, hP, hN, hY, hr, s, a, w, Q, hs, hv => by
    rename_i id x X
    simp only [vc] at hv
    simp only [MC.flat] at hr
    refine wpIn_block (wpIn_mono (code_ok h hP hN hY hr hs hv) ?_)
    rintro e a' w' ⟨s', hq, hs'⟩
    cases e with
    | exit i =>
      simp only [Exit.inBlock] at hq ⊢
      split
      · rename_i e
        rw [if_pos e] at hq
        exact ⟨s', hq, hs'⟩
      · rename_i e
        rw [if_neg e] at hq
        exact ⟨s', hq, hs'⟩
    | _ => exact ⟨s', hq, hs'⟩
  | _, _, _, _, .loop h, C, hP, hN, hY, hr, s, a, w, Q, hs, hv => by
    rename_i x X
    simp only [vc, LoopO] at hv
    simp only [MC.flat] at hr
    obtain ⟨I, ⟨m0, s0, hI, h0, hle⟩, hround⟩ := hv
    refine wpIn_loop_n (fun m a w => ∃ s, I m s ∧ Sat C s a w) ⟨m0, s0, hI, hs.weaken h0 hle⟩ ?_
    rintro m a w ⟨s, hI, hs⟩
    refine wpIn_mono (code_ok h hP hN hY hr hs (hround m s hI)) ?_
    rintro e a' w' ⟨s', hq, hs'⟩
    cases e with
    | normal =>
      obtain ⟨m', s'', hm, hI', h0', hle'⟩ := hq
      exact ⟨m', hm, s'', hI', hs'.weaken h0' hle'⟩
    | _ => exact ⟨s', hq, hs'⟩
  | _, _, _, _, .exit, C, hP, hN, hY, hr, s, a, w, Q, hs, hv => wpIn_exit ⟨s, hv, hs⟩
  | _, _, _, _, .ret, C, hP, hN, hY, hr, s, a, w, Q, hs, hv => wpIn_ret ⟨s, hv, hs⟩
  | _, _, _, _, .rng hps hx hy h1 h2, C, hP, hN, hY, hr, s, a, w, Q, hs, hv => by
    rename_i g ps x y X Y
    simp only [MC.flat, Bool.false_eq_true, false_or] at hr
    simp only [vc] at hv
    refine range_ok hr.1 hr.2 (fun p hp => by rw [hN]; exact hps p hp) (fun l C' e1 e2 hY' hr' s a w Q hs hv => ?_) (fun l C' e1 e2 hY' hr' s a w Q hs hv => ?_) hs hv
    · rw [← e1] at hv ⊢
      exact code_ok h1 (e1.trans hP) (e2.trans hN) hY' (.inl hx) hs hv
    · rw [← e1] at hv ⊢
      exact code_ok h2 (e1.trans hP) (e2.trans hN) hY' (.inl hy) hs hv
end Go.QL
