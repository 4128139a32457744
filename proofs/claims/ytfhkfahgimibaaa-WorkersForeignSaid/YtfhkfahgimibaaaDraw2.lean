/- The operations of regions in any order, and the whole of such a region. -/
import Derived.Test.YtfhkfahgimibaaaDraw
namespace Go.QL

def GO.reads (o : GO) : List Nat :=
  (match o.g with | some (t, _) => [t] | none => []) ++ o.op.opers.filterMap fun | .tmp t => some t | _ => none

theorem stripL_det {c : Bool} : ∀ {xs : List AV} {K : List AV → Prop}, stripL c xs K → ∃ zs, K zs ∧ ∀ K' : List AV → Prop, K' zs → stripL c xs K'
  | [], K, h => ⟨[], h, fun _ h => h⟩
  | x :: xs, K, h => by
    simp only [stripL] at h
    obtain ⟨z, h1, h2⟩ := strip_det h
    obtain ⟨zs, h3, h4⟩ := stripL_det h1
    exact ⟨z :: zs, h3, fun K' hk => by simp only [stripL]; exact h2 _ (h4 _ hk)⟩

theorem vgg_det {P : Program} {dst : Option Nat} {c : Bool} {m : MO} {s : St} {K : St → Prop} (h : vgg P dst c m s K) : ∃ s', K s' ∧ vgg P dst c m s (fun x => x = s') := by
  have q : ∀ m, (qv c m s.ev (look s.σ) s.n fun r ν => ν = [] ∧ K (s.put dst (mkgd c r))) → ∃ s', K s' ∧ (qv c m s.ev (look s.σ) s.n fun r ν => ν = [] ∧ s.put dst (mkgd c r) = s') := by
    intro m h
    obtain ⟨r, ν, h1, h2⟩ := qv_det h
    exact ⟨_, h1.2, h2 _ ⟨h1.1, rfl⟩⟩
  have al : ∀ m, (bif c then qv true m s.ev (look s.σ) s.n fun r ν => K ((s.new ν).put dst r) else K (s.put dst (.gd false .any))) →
      ∃ s', K s' ∧ (bif c then qv true m s.ev (look s.σ) s.n fun r ν => (s.new ν).put dst r = s' else s.put dst (.gd false .any) = s') := by
    intro m h
    cases c with
    | false => exact ⟨_, h, rfl⟩
    | true =>
      obtain ⟨r, ν, h1, h2⟩ := qv_det (K := fun r ν => K ((s.new ν).put dst r)) h
      exact ⟨_, h1, h2 (fun r' ν' => (s.new ν').put dst r' = (s.new ν).put dst r) rfl⟩
  cases m <;> simp only [vgg] at h ⊢ <;> try (first | exact h.elim | exact al _ h | exact q _ h)
  case call f args =>
    obtain ⟨zs, ⟨h1, r, h2, h3⟩, h4⟩ := stripL_det h
    exact ⟨_, h3, h4 _ ⟨h1, r, h2, rfl⟩⟩

theorem CallR_det {P : Program} {n0 : Nat} {f : FuncId} {as : List AV} {s : St} {dst : Option Nat} {K : St → Prop} (h : CallR P n0 f as s dst K) : ∃ r, K (s.put dst r) ∧ CallR P n0 f as s dst (fun x => x = s.put dst r) := by
  rcases h with ⟨h1, r, h2, h3⟩ | ⟨π, as', σc, r, h1, h2, h3, h4, h5, h6, h7, h8⟩
  · exact ⟨r, h3, .inl ⟨h1, r, h2, rfl⟩⟩
  · exact ⟨r, h8, .inr ⟨π, as', σc, r, h1, h2, h3, h4, h5, h6, h7, rfl⟩⟩

theorem vdop_det {P : Program} {n0 : Nat} {o : GO} {s : St} {K : St → Prop} (h : vdop P n0 o s K) : ∃ s', K s' ∧ vdop P n0 o s (fun x => x = s') := by
  unfold vdop at h ⊢
  split at h
  · have q : ∀ m, (qv true m s.ev (look s.σ) s.n fun r ν => K ((s.new ν).put o.dst r)) → ∃ s', K s' ∧ (qv true m s.ev (look s.σ) s.n fun r ν => (s.new ν).put o.dst r = s') := by
      intro m h
      obtain ⟨r, ν, h1, h2⟩ := qv_det h
      exact ⟨_, h1, h2 _ rfl⟩
    cases hm : o.op <;> rw [hm] at h <;> simp only [vdo] at h ⊢ <;> try (first | exact h.elim | exact q _ h)
    case call f args =>
      obtain ⟨zs, h1, h4⟩ := stripL_det h
      obtain ⟨r, h2, h3⟩ := CallR_det h1
      exact ⟨_, h2, h4 _ h3⟩
    case callv f args =>
      obtain ⟨z, h, hz⟩ := strip_det h
      split at h
      · obtain ⟨zs, ⟨he, h1⟩, h4⟩ := stripL_det h
        obtain ⟨r, h2, h3⟩ := CallR_det h1
        exact ⟨_, h2, hz _ (h4 _ ⟨he, h3⟩)⟩
      · exact h.elim
  · split at h
    · exact vgg_det h
    · exact vgg_det h
    · exact h.elim

/-- The states in the order of the text. -/
theorem vdops_seq {P : Program} {n0 : Nat} : ∀ {gs : List GO} {s : St} {K : St → Prop}, vdops P n0 gs s K →
    ∃ ss : Nat → St, ss 0 = s ∧ K (ss gs.length) ∧ ∀ i g, gs[i]? = some g → vdop P n0 g (ss i) (fun x => x = ss (i + 1))
  | [], s, K, h => ⟨fun _ => s, rfl, h, fun i g hi => by simp at hi⟩
  | g :: gs, s, K, h => by
    simp only [vdops] at h
    obtain ⟨s', h1, h2⟩ := vdop_det h
    obtain ⟨ss, e0, hK, hs⟩ := vdops_seq h1
    refine ⟨fun i => match i with | 0 => s | i + 1 => ss i, rfl, hK, fun i g' hi => ?_⟩
    cases i with
    | zero =>
      simp at hi
      subst hi
      simpa [e0] using h2
    | succ i => exact hs i g' (by simpa using hi)

theorem vgg_shape {P : Program} {dst : Option Nat} {c : Bool} {m : MO} {s s' : St} (h : vgg P dst c m s (fun x => x = s')) : ∃ r ν, s' = (s.new ν).put dst r := by
  have q : ∀ m, (qv c m s.ev (look s.σ) s.n fun r ν => ν = [] ∧ s.put dst (mkgd c r) = s') → ∃ r ν, s' = (s.new ν).put dst r := by
    intro m h
    obtain ⟨r, ν, h1, _⟩ := qv_det h
    exact ⟨mkgd c r, [], h1.2.symm⟩
  have al : ∀ m, (bif c then qv true m s.ev (look s.σ) s.n fun r ν => (s.new ν).put dst r = s' else s.put dst (.gd false .any) = s') → ∃ r ν, s' = (s.new ν).put dst r := by
    intro m h
    cases c with
    | false => exact ⟨_, [], h.symm⟩
    | true =>
      obtain ⟨r, ν, h1, _⟩ := qv_det (K := fun r ν => (s.new ν).put dst r = s') h
      exact ⟨r, ν, h1.symm⟩
  cases m <;> simp only [vgg] at h <;> try (first | exact h.elim | exact al _ h | exact q _ h)
  case call f args =>
    obtain ⟨zs, ⟨_, r, _, h3⟩, _⟩ := stripL_det h
    exact ⟨mkgd c r, [], h3.symm⟩

theorem vdop_shape {P : Program} {n0 : Nat} {o : GO} {s s' : St} (h : vdop P n0 o s (fun x => x = s')) : ∃ r ν, s' = (s.new ν).put o.dst r := by
  unfold vdop at h
  split at h
  · have q : ∀ m, (qv true m s.ev (look s.σ) s.n fun r ν => (s.new ν).put o.dst r = s') → ∃ r ν, s' = (s.new ν).put o.dst r := by
      intro m h
      obtain ⟨r, ν, h1, _⟩ := qv_det h
      exact ⟨r, ν, h1.symm⟩
    cases hm : o.op <;> rw [hm] at h <;> simp only [vdo] at h <;> try (first | exact h.elim | exact q _ h)
    case call f args =>
      obtain ⟨zs, h1, _⟩ := stripL_det h
      obtain ⟨r, h2, _⟩ := CallR_det h1
      exact ⟨r, [], h2.symm⟩
    case callv f args =>
      obtain ⟨z, h, _⟩ := strip_det h
      split at h
      · obtain ⟨zs, ⟨_, h1⟩, _⟩ := stripL_det h
        obtain ⟨r, h2, _⟩ := CallR_det h1
        exact ⟨r, [], h2.symm⟩
      · exact h.elim
  · split at h
    · exact vgg_shape h
    · exact vgg_shape h
    · exact h.elim

theorem new_n : ∀ (ν : List Bx) (s : St), (s.new ν).n = s.n + ν.length
  | [], s => rfl
  | x :: r, s => by
    simp only [St.new, new_n r, List.length_cons]
    omega

theorem new_look : ∀ (ν : List Bx) (s : St) (l : Nat) (x : Bx), l < s.n → (look (s.new ν).σ l = some x ↔ look s.σ l = some x)
  | [], s, l, x, _ => Iff.rfl
  | y :: r, s, l, x, hl => by
    simp only [St.new]
    rw [new_look r _ l x (by simp only; omega)]
    simp only [look]
    rw [if_neg (by omega)]

theorem new_lab : ∀ (ν : List Bx) (s : St), (∀ l x, look s.σ l = some x → l < s.n) → ∀ l x, look (s.new ν).σ l = some x → l < s.n + ν.length
  | [], s, h, l, x, hx => h l x hx
  | y :: r, s, h, l, x, hx => by
    simp only [St.new] at hx
    have := new_lab r _ (by
      intro l x hx
      simp only [look] at hx
      split at hx
      · simp only
        omega
      · have := h l x hx
        simp only
        omega) l x hx
    simp only [List.length_cons] at this ⊢
    omega

theorem new_get : ∀ (ν : List Bx) (s : St) (i : Nat), (s.new ν).get i = s.get i
  | [], _, _ => rfl
  | _ :: r, s, i => by
    simp only [St.new]
    rw [new_get r]
    rfl

theorem new_one_look (s : St) (y : Bx) : look (s.new [y]).σ s.n = some y := by simp [St.new, look]

theorem strip_L1 {k : KW} {xs : List AV} {ys : List Value} {K : List AV → Prop} (hd : DenL k xs ys) (h : stripL true xs K) : ∃ zs, DenL k zs ys ∧ K zs := by
  obtain ⟨zs, h1, h2⟩ := stripL_all (α := Unit) (k := fun _ => k) rfl (fun _ => hd) h ⟨()⟩
  exact ⟨zs, h1 (), h2⟩

section
variable {C : Cx} {a : Act} {w : World} {M : Nat → Prop} {ρ : Nat → Option Nat} {D : Nat → Prop} {T : Nat → AV} {σ : Nat → Option Bx} {o : Oper}

/-- One operation, in any order. -/
theorem fstep {ops : Array Oper} {g : GO} {s s' : St} {n0 : Nat} (h : SatF C D T σ a w M ρ) (hDn : ∀ l, l < n0 → D l) (hn0 : n0 ≤ s.n) (hg : GOok C.P C.N ops o g) (hv : vdop C.P n0 g s fun x => x = s')
    (hreads : ∀ x ∈ g.reads, T x = s.get x) (hτ : ∀ l x, look s'.σ l = some x → σ l = some x) (hlab : ∀ l x, look s.σ l = some x → l < s.n) (hl0 : s.n < s'.n → ¬ D s.n)
    (Kw : Act → World → Prop) (Q : Exit → Act → World → Prop)
    (hKw : ∀ a' w' M' ρ', SatF C (fun l => D l ∨ (s.n ≤ l ∧ l < s'.n)) (fun i => if o.dst = some i then s'.get i else T i) σ a' w' M' ρ' → Kw a' w') :
    if Region.wanted o (yielded ops a.tmps) then owp C o a w Kw Q else Kw (a.put o.dst undef) w := by
  obtain ⟨e1, e2, e3⟩ := hg.parts
  have hd := hg.dst
  have hopers : ∀ x ∈ g.op.opers, s.ev x = evT T x := by
    intro x hx
    cases x with
    | tmp t =>
      refine (hreads t ?_).symm
      unfold GO.reads
      rw [List.mem_append]
      exact .inr (List.mem_filterMap.2 ⟨_, hx, rfl⟩)
    | _ => rfl
  have hτ0 : ∀ ν r, s' = (s.new ν).put o.dst r → ∀ l x, look s.σ l = some x → σ l = some x := by
    intro ν r e l x hx
    refine hτ l x ?_
    rw [e, (put_σ _ _ _).1]
    exact (new_look ν s l x (hlab l x hx)).2 hx
  have quiet : ∀ (m : MO), g.op = m → ∀ (r : AV) (ν : List Bx), (qv true m s.ev (look s.σ) s.n fun r' ν' => r' = r ∧ ν' = ν) → ∀ r2, (∀ k v, Den k r v → Den k r2 v) → s' = (s.new ν).put o.dst r2 → owp C o a w Kw Q := by
    intro m hm r ν hq r2 hr2 es
    subst hm
    have hn : s'.n = s.n + ν.length := by rw [es, (put_σ _ _ _).2, new_n]
    refine SatF.quiet h e3 hd hopers (fun l x _ hx => hτ0 _ _ es l x hx) (fun hne => hl0 (by
      have := List.length_pos_iff.2 hne
      omega)) (fun cs hcs => ?_) hq r2 hr2 Kw Q fun a' w' M' ρ' hs => hKw a' w' M' ρ' ?_
    · refine hτ _ _ ?_
      rw [es, (put_σ _ _ _).1, hcs]
      exact new_one_look _ _
    · rw [hn]
      have : (fun i => if o.dst = some i then s'.get i else T i) = fun i => if o.dst = some i then r2 else T i := by
        funext i
        split
        · rename_i he
          rw [es, get_put, if_pos he]
        · rfl
      rw [this]
      exact hs
  have keep : ∀ (r : AV) (a' : Act) (w' : World) (M' : Nat → Prop) (ρ' : Nat → Option Nat), s' = s.put o.dst r → SatF C D (fun i => if o.dst = some i then r else T i) σ a' w' M' ρ' → Kw a' w' := by
    intro r a' w' M' ρ' es hs
    have hn : s'.n = s.n := by rw [es, (put_σ _ _ _).2]
    refine hKw a' w' M' ρ' ?_
    have e : (fun l => D l ∨ (s.n ≤ l ∧ l < s'.n)) = D := by
      funext l
      simp only [eq_iff_iff]
      exact ⟨fun h => h.elim id fun h => absurd h.2 (by omega), .inl⟩
    have : (fun i => if o.dst = some i then s'.get i else T i) = fun i => if o.dst = some i then r else T i := by
      funext i
      split
      · rename_i he
        rw [es, get_put, if_pos he]
      · rfl
    rw [e, this]
    exact hs
  have callG : ∀ (f : Nat) (args : List Operand), g.op = .call f args → ∀ (as : List AV) (r r2 : AV), DenL ⟨w, M, ρ⟩ as (args.map a.eval) → lbs 0 as → FP C.P f as (fun x => x = r) → (∀ k v, Den k r v → Den k r2 v) → s' = s.put o.dst r2 → owp C o a w Kw Q := by
    intro f args hm as r r2 hden hl hF hr2 es
    obtain ⟨ar, ts, fn, ho, rfl, hf, hb, hn⟩ := tr_call (by rw [e3, hm])
    unfold owp
    rw [call_run ho hf hb hn]
    refine upon_enter_of ?_
    have := SatF.call h hl hden hF
    rw [show (List.map a.eval ar.toList).toArray = ar.map a.eval by rw [← Array.toList_map]] at this
    refine this.mono ?_
    rintro e w' ⟨v, rfl, hs, hr⟩
    exact keep r2 _ _ M ρ es (SatF.put hs hd (hr2 _ _ hr))
  have evs : ∀ (args : List Operand) , (∀ x ∈ args, s.ev x = evT T x) → DenL ⟨w, M, ρ⟩ (args.map s.ev) (args.map a.eval) := by
    intro args ha
    rw [List.map_congr_left ha]
    exact DenL.map (evT_den h) args
  have callR : ∀ {f : FuncId} {as : List AV} {vs : List Value}, CallR C.P n0 f as s o.dst (fun x => x = s') → DenL ⟨w, M, ρ⟩ as vs → Calls C.P f vs.toArray w fun
      | .returned v, w'' => Kw (a.put o.dst v) w''
      | .panicked chain, w'' => Q (.panic chain) a w''
      | .outgrown, _ => LetsOut Q := by
    intro f as vs hR hden
    rcases hR with ⟨hl, r, hF, hK⟩ | ⟨π, as', σc, r, rfl, hl, hnd, hπ, hσc, hlr, hF, hK⟩
    · refine (SatF.call h hl hden hF).mono ?_
      rintro e w' ⟨v, rfl, hs, hr⟩
      exact keep r _ _ M ρ hK.symm (SatF.put hs hd hr)
    · have hτs := hτ0 [] r hK.symm
      refine (SatF.callR h hl hnd (fun l hl => hDn l (hπ l hl)) (fun l x hx => ⟨(hσc l x hx).1, (hσc l x hx).2.1, hτs _ _ (hσc l x hx).2.2⟩) hden hlr hF).mono ?_
      rintro e w' ⟨v, rfl, hs, hr⟩
      exact keep r _ _ M ρ hK.symm (SatF.put hs hd hr)
  unfold vdop at hv
  rw [e1] at hv
  cases hgd : o.guard with
  | none =>
    rw [hgd] at e2
    simp only [trGuard, Option.some.injEq] at e2
    rw [← e2] at hv
    simp only [] at hv
    rw [if_pos (by simp [Region.wanted, hgd])]
    have qt : ∀ (m : MO), g.op = m → (qv true m s.ev (look s.σ) s.n fun r ν => (s.new ν).put o.dst r = s') → owp C o a w Kw Q := by
      intro m hm hq
      obtain ⟨r, ν, h1, h2⟩ := qv_det hq
      exact quiet m hm r ν (h2 _ ⟨rfl, rfl⟩) r (fun _ _ h => h) h1.symm
    cases hop : g.op <;> rw [hop] at hv <;> simp only [vdo] at hv <;> try (exact qt _ hop hv)
    case call f args =>
      obtain ⟨as, hden, hR⟩ := strip_L1 (evs args (by rw [hop] at hopers; exact hopers)) hv
      obtain ⟨ar, ts, fn, ho, rfl, hf, hb, hn⟩ := tr_call (by rw [e3, hop])
      unfold owp
      rw [call_run ho hf hb hn]
      refine upon_enter_of ?_
      have := callR hR hden
      rwa [show (List.map a.eval ar.toList).toArray = ar.map a.eval by rw [← Array.toList_map]] at this
    case callv f args =>
      obtain ⟨t, as, ts, rfl, ho, rfl⟩ := tr_callv (by rw [e3, hop])
      have hops : ∀ x ∈ (Operand.tmp t :: as.toList), s.ev x = evT T x := by
        rw [hop] at hopers
        exact hopers
      obtain ⟨F, hF, hv⟩ := strip_all (α := Unit) (k := fun _ => ⟨w, M, ρ⟩) rfl (fun _ => by rw [hops _ (by simp)]; exact evT_den h (.tmp t)) hv
      split at hv
      · rename_i n first caps
        obtain ⟨zs, hz, hent, hv⟩ := strip_L1 (evs as.toList fun x hx => hops x (by simp [hx])) hv
        have hF0 := hF ()
        simp only [Den] at hF0
        obtain ⟨fs, cs, hfv, h1, h2⟩ := hF0
        have hrun : (execOp a.eval o).run C.P w = .ok (.enter n (fs ++ as.map a.eval ++ cs)) w := by
          simp [execOp, ho, resolve, hfv, Deferred.ofValue, invoke]
          exact hent _ _
        unfold owp
        rw [hrun]
        refine upon_enter_of ?_
        have := callR (vs := fs.toList ++ as.toList.map a.eval ++ cs.toList) hv (DenL.append (DenL.append h1 hz) h2)
        have e : (fs.toList ++ as.toList.map a.eval ++ cs.toList).toArray = fs ++ as.map a.eval ++ cs := by
          rw [← Array.toList_map]
          simp
        rwa [e] at this
      · exact hv.elim
  | some jw =>
    obtain ⟨j, want⟩ := jw
    rw [hgd] at e2
    simp only [trGuard] at e2
    split at e2
    · rename_i d hj
      simp only [Option.some.injEq] at e2
      rw [← e2] at hv
      simp only [] at hv
      have hTd : T d = s.get d := hreads d (by simp [GO.reads, ← e2])
      have hwant : ∀ b, a.tmps.getD d undef = .bool b → (Region.wanted o (yielded ops a.tmps) = (b == want)) := by
        intro b hb
        have : a.tmps[d]? = some (.bool b) := by
          rw [Array.getD_eq_getD_getElem?] at hb
          cases ht : a.tmps[d]? with
          | none => simp [ht, undef] at hb
          | some v => simp [ht] at hb; rw [hb]
        simp [Region.wanted, hgd, yielded, hj, this]
      have hunw : a.tmps.getD d undef = undef → Region.wanted o (yielded ops a.tmps) = false := by
        intro hb
        have : yielded ops a.tmps j = none := by
          unfold yielded
          rw [hj]
          simp only [Option.bind_some]
          rw [Array.getD_eq_getD_getElem?] at hb
          cases ht : a.tmps[d]? with
          | none => rfl
          | some v =>
            simp [ht, undef] at hb
            subst hb
            rfl
        simp [Region.wanted, hgd, this]
      have main : ∀ c : Bool, Region.wanted o (yielded ops a.tmps) = c → (vgg C.P o.dst c g.op s fun x => x = s') → if Region.wanted o (yielded ops a.tmps) then owp C o a w Kw Q else Kw (a.put o.dst undef) w := by
        intro c hc hv
        rw [hc]
        have qt : ∀ (m : MO), g.op = m → (qv c m s.ev (look s.σ) s.n fun r ν => ν = [] ∧ s.put o.dst (mkgd c r) = s') → if c then owp C o a w Kw Q else Kw (a.put o.dst undef) w := by
          intro m hm hq
          obtain ⟨r, ν, ⟨h0, h1⟩, h2⟩ := qv_det hq
          subst h0
          cases c with
          | false => exact keep _ _ _ M ρ h1.symm (SatF.put h hd (mkgd_den (by simp) fun _ => rfl))
          | true => exact quiet m hm r [] (h2 _ ⟨rfl, rfl⟩) (mkgd true r) (fun k v hv => mkgd_den (fun _ => hv) (by simp)) h1.symm
        have al : ∀ (m : MO), g.op = m → (bif c then qv true m s.ev (look s.σ) s.n fun r ν => (s.new ν).put o.dst r = s' else s.put o.dst (.gd false .any) = s') → if c then owp C o a w Kw Q else Kw (a.put o.dst undef) w := by
          intro m hm hq
          cases c with
          | false => exact keep _ _ _ M ρ hq.symm (SatF.put h hd (by simp [Den]))
          | true =>
            obtain ⟨r, ν, h1, h2⟩ := qv_det (K := fun r ν => (s.new ν).put o.dst r = s') hq
            exact quiet m hm r ν (h2 _ ⟨rfl, rfl⟩) r (fun _ _ h => h) h1.symm
        cases hop : g.op <;> rw [hop] at hv <;> simp only [vgg] at hv <;> try (first | exact al _ hop hv | exact qt _ hop hv)
        case call f args =>
          cases c with
          | false =>
            obtain ⟨zs, _, r, _, hK⟩ := stripL_some hv
            exact keep _ _ _ M ρ hK.symm (SatF.put h hd (mkgd_den (by simp) fun _ => rfl))
          | true =>
            obtain ⟨as, hden, hl, r, hF, hK⟩ := strip_L1 (evs args (by rw [hop] at hopers; exact hopers)) hv
            exact callG f args hop as r (mkgd true r) hden hl (hF rfl) (fun k v hv => mkgd_den (fun _ => hv) (by simp)) hK.symm
      have hgt := h.tmps d
      rw [hTd] at hgt
      split at hv
      · rename_i p hp
        rw [hp] at hgt
        simp only [Den] at hgt
        refine main _ ?_ hv
        rw [hwant p hgt]
        cases p <;> cases want <;> rfl
      · rename_i dd p hp
        rw [hp] at hgt
        simp only [Den] at hgt
        refine main _ ?_ hv
        cases dd with
        | false =>
          rw [hunw (hgt.2 rfl)]
          rfl
        | true =>
          rw [hwant p (hgt.1 rfl)]
          cases p <;> cases want <;> rfl
      · exact hv.elim
    · cases e2
end
end Go.QL
