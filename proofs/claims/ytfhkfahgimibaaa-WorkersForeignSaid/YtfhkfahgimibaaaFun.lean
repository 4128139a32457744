/- Contracts out of bodies. -/
import Derived.Test.YtfhkfahgimibaaaWalk
namespace Go.QL

/-- A result: a temporary, or a variable of so many cells. -/
inductive RV where
  | t (i : Nat)
  | c (i : Nat) (agg : Bool) (n : Nat)

def resV (s : St) : List RV → (List AV → Prop) → Prop
  | [], K => K []
  | .t i :: r, K => strip true (s.get i) fun x => resV s r fun xs => K (x :: xs)
  | .c i agg n :: r, K => match s.get i with
    | .ptr l off => match look s.σ l with
      | some (.cs cs) => off + n ≤ cs.length ∧ resV s r fun xs => K ((if agg then .agg ((cs.drop off).take n) else (cs.drop off).headD .any) :: xs)
      | _ => False
    | _ => False

def trRes (P : Program) : ResultVar → Option RV
  | .tmp t => some (.t t)
  | .cell a t => match P.underlying t, szOf P t with
    | some d, some n => some (.c a (isRowTy d) (if isRowTy d then n else 1))
    | _, _ => none

def tupV : List AV → AV
  | [x] => x
  | xs => .tup xs

/-- The end of a function that hands back no box: its results, with the own rows let go. -/
def RetO (s : St) (rs : List RV) (post : AV → Prop) : Prop := resV s rs fun xs => lb 0 (frz s.σ 6 (tupV xs)) ∧ post (frz s.σ 6 (tupV xs))

def args0 : Nat → List AV → List (Nat × AV)
  | _, [] => []
  | i, x :: xs => (i, x) :: args0 (i + 1) xs

theorem look_args0 : ∀ (xs : List AV) (i j : Nat), look (args0 i xs) j = if i ≤ j then xs[j - i]? else none
  | [], i, j => by simp [args0, look]
  | x :: xs, i, j => by
    simp only [args0, look, look_args0 xs (i + 1) j]
    by_cases h : j = i
    · subst h
      simp
    · rw [if_neg h]
      by_cases h2 : i ≤ j
      · rw [if_pos h2, if_pos (by omega)]
        rw [show j - i = (j - (i + 1)) + 1 from by omega]
        simp
      · rw [if_neg h2, if_neg (by omega)]

section
variable {C : Cx}

/-- A result's value. -/
def resM (a : Act) : ResultVar → Sem Value
  | .tmp t => pure (a.tmps.getD t undef)
  | .cell p t => do loadVar t (← asAddr (a.tmps.getD p undef))

theorem resM_cell {P : Program} {a : Act} {w : World} {p : Tmp} {t : TypeId} {ad : Addr} {v : Value} (hx : a.tmps.getD p undef = .pointer (some ad)) (h : (loadVar t ad).run P w = .ok v w) :
    (resM a (.cell p t)).run P w = .ok v w := by
  simp [resM, hx, asAddr, h]

theorem results_run {s : St} {a : Act} {w : World} {M : Nat → Prop} {ρ : Nat → Option Nat} (h : SatAt C s a w M ρ) : ∀ {rv : List ResultVar} {rs : List RV} {K : List AV → Prop}, rv.mapM (trRes C.P) = some rs → resV s rs K →
    ∃ xs vs, K xs ∧ DenL ⟨w, M, ρ⟩ xs vs ∧ (rv.mapM (resM a)).run C.P w = .ok vs w
  | [], rs, K, ht, hr => by
    simp at ht
    subst ht
    exact ⟨[], [], hr, by simp [DenL], by simp⟩
  | r :: rv, rs, K, ht, hr => by
    simp only [List.mapM_cons, Option.bind_eq_bind, Option.bind_eq_some_iff] at ht
    obtain ⟨x, hx, xs, hxs, ht⟩ := ht
    have : x :: xs = rs := by simpa using ht
    subst this
    have hf := h.facts ρ fun _ _ => rfl
    cases r with
    | tmp t =>
      simp only [trRes, Option.some.injEq] at hx
      subst hx
      simp only [resV] at hr
      obtain ⟨z, hz, hr⟩ := strip_ok (c := true) rfl (hf.tmps t) hr
      obtain ⟨ys, vs, hK, hd, hrun⟩ := results_run h hxs hr
      refine ⟨_, _ :: vs, hK, by simp only [DenL]; exact ⟨hz, hd⟩, ?_⟩
      simp only [List.mapM_cons, Sem.run_bind, Sem.run_pure, Result.andThen_ok, hrun, resM]
    | cell p t =>
      simp only [trRes] at hx
      split at hx
      · rename_i d n hu hn
        simp only [Option.some.injEq] at hx
        subst hx
        simp only [resV] at hr
        split at hr
        · rename_i l off hp
          split at hr
          · rename_i cs hl
            obtain ⟨hlen, hr⟩ := hr
            obtain ⟨ys, vs, hK, hd, hrun⟩ := results_run h hxs hr
            have hgp := hf.tmps p
            rw [hp] at hgp
            simp only [Den] at hgp
            obtain ⟨b, hb, hx⟩ := hgp
            have hbx := hf.boxes l _ hl
            simp only [BxOK] at hbx
            rcases hbx with ⟨_, h0⟩ | ⟨b', vs', T', hb', hM, hheap, hone, hle, hdl⟩
            · rw [hb] at h0
              cases h0
            · rw [hb] at hb'
              cases hb'
              have hrange : w.rangeAt b off ((vs'.toList.take cs.length).drop off) := by
                intro j v hj
                rw [List.getElem?_drop, List.getElem?_take] at hj
                split at hj
                · have hheap' : w.heap[b]? = some (.cells vs' T' (0, 0)) := hheap
                  simp only [World.cell?, hheap']
                  simpa using hj
                · cases hj
              have hd2 := DenL.drop off hdl
              have hl2 := hd2.length
              cases hrow : isRowTy d with
              | true =>
                rw [hrow] at hK hlen
                simp only [if_true] at hK hlen
                have hr' : w.rangeAt b off (((vs'.toList.take cs.length).drop off).take n) := fun j v hj => hrange j v (by
                  rw [List.getElem?_take] at hj
                  split at hj
                  · exact hj
                  · cases hj)
                have := (load_run (P := C.P) w hu hn hr').1 hrow (by simp; omega)
                refine ⟨_, .agg (((vs'.toList.take cs.length).drop off).take n).toArray :: vs, hK, ?_, ?_⟩
                · simp only [DenL]
                  refine ⟨?_, hd⟩
                  simp only [Den]
                  exact ⟨_, rfl, by simpa using DenL.take n hd2⟩
                · simp only [List.mapM_cons, Sem.run_bind, resM_cell hx this, Sem.run_pure, Result.andThen_ok, hrun]
              | false =>
                rw [hrow] at hK hlen
                simp at hK hlen
                obtain ⟨v, hv, hdv⟩ := headD_den hd2 (by simp; omega)
                have := (load_run (P := C.P) w hu hn hrange).2 hrow v hv
                refine ⟨_, v :: vs, hK, ?_, ?_⟩
                · simp only [DenL]
                  exact ⟨by simpa using hdv, hd⟩
                · simp only [List.mapM_cons, Sem.run_bind, resM_cell hx this, Sem.run_pure, Result.andThen_ok, hrun]
          · exact hr.elim
        · exact hr.elim
      · cases hx
end

theorem resV_det {s : St} : ∀ {rs : List RV} {K : List AV → Prop}, resV s rs K → ∃ xs, K xs ∧ ∀ K' : List AV → Prop, K' xs → resV s rs K'
  | [], K, h => ⟨[], h, fun _ h => h⟩
  | .t i :: r, K, h => by
    simp only [resV] at h
    obtain ⟨z, h1, h2⟩ := strip_det h
    obtain ⟨xs, h3, h4⟩ := resV_det h1
    exact ⟨_, h3, fun K' hk => by simp only [resV]; exact h2 _ (h4 _ hk)⟩
  | .c i agg n :: r, K, h => by
    simp only [resV] at h
    split at h
    · rename_i l off hg
      split at h
      · rename_i cs hl
        obtain ⟨xs, h3, h4⟩ := resV_det h.2
        exact ⟨_, h3, fun K' hk => by simp only [resV, hg, hl]; exact ⟨h.1, h4 _ hk⟩⟩
      · exact h.elim
    · exact h.elim

theorem leaves_marks {P : Program} {fn : Func} {tmps : Array Value} {R : Ending → World → Prop} : ∀ (ds : List Deferred) (w : World), (∀ d ∈ ds, ∃ D, d = mark D ∧ w.heap[D]? = some (.deferred (some []))) → ds.Nodup →
    (∀ w', Fr w (fun b => mark b ∈ ds) w' → ∃ v, (results fn tmps).run P w' = .ok v w' ∧ R (.returned v) w') → LeavesInM Fence.wide 0 P fn tmps R ds .returning w
  | [], w, _, _, hR => hR w (Fr.refl _ _)
  | d :: ds, w, hd, hn, hR => by
    obtain ⟨D, rfl, hD⟩ := hd d (by simp)
    obtain ⟨hn1, hn2⟩ := List.nodup_cons.1 hn
    refine ⟨by simp, .inl ⟨D, _, rfl, run_takeDeferred hD, leaves_marks ds _ (fun d' hd' => ?_) hn2 fun w' hf => hR w' ?_⟩⟩
    · obtain ⟨D', rfl, hD'⟩ := hd d' (by simp [hd'])
      refine ⟨D', rfl, (World.putObj_heap_other fun e => ?_).trans hD'⟩
      subst e
      exact hn1 hd'
    · have hf1 : Fr w (fun b => b = D) (w.putObj D (.deferred none)) := Fr.putObj hD (fun _ _ _ => by simp)
      refine (hf1.mono (S' := fun b => mark b ∈ mark D :: ds) fun b e => by rw [e]; simp).trans hf fun b _ hb => ?_
      exact List.mem_cons_of_mem _ hb

/-- The frame leaves: its marks are come to. -/
theorem SatAt.leave {C : Cx} {s : St} {a : Act} {w w' : World} {M : Nat → Prop} {ρ : Nat → Option Nat} (h : SatAt C s a w M ρ) (hf : Fr w (fun b => mark b ∈ a.defers) w') : SatAt C s { a with defers := [] } w' M ρ := by
  obtain ⟨⟨X, h1, h2, h3, h4⟩, h5, h6⟩ := h.ex
  have mk : ∀ {b}, mark b ∈ a.defers → C.w0.heap.size ≤ b ∧ X b ∧ ¬ Sg ρ s.σ b := by
    intro b hb
    obtain ⟨D, e1, e2, _, e4, e5⟩ := h3 _ hb
    obtain rfl := mark_inj e1
    exact ⟨e2, e4, e5⟩
  have le : ∀ ρ', KW.le ⟨w, M, ρ'⟩ ⟨w', M, ρ'⟩ := fun ρ' => ⟨hf.size, fun b hb hm => ⟨hm, hf.keep b hb fun hk => hm (h2 b (mk hk).2.1)⟩, hf.rows, rfl⟩
  refine ⟨fun ρ' hρ => ⟨fun i => Den.mono (le ρ') _ _ ((h.facts ρ' hρ).tmps i), fun i x hx => ?_⟩, h.lab, h.inj, ?_, fun b hb => Nat.lt_of_lt_of_le (h.mlt b hb) hf.size, h.foreign, h.own, h.size, ?_, h.n0, h.ag0⟩
  · have hbx := (h.facts ρ' hρ).boxes i x hx
    refine BxOK.mono (le ρ') (fun b hb => ⟨id, hf.keep b (h.mlt b (BxOK.lt hbx hb)) fun hk => (mk hk).2.2 ⟨i, x, hx, ?_⟩⟩) hbx
    rw [← hρ i (h.lab i x hx)]
    exact hb
  · refine h.fr.trans hf fun b hb hk => ?_
    have := (mk hk).1
    omega
  · refine ⟨⟨X, h1, h2, by simp, fun l b y hy => ?_⟩, ⟨List.nodup_nil, fun _ => rfl⟩, h6⟩
    obtain ⟨e1, e2, e3⟩ := h4 l b y hy
    exact ⟨e1, e2, C.jst _ _ _ _ _ _ _ e3 (hf.mono fun b hk => (mk hk).2.1) (fun b hb => .inl hb) h2 fun b hb _ => hb⟩

theorem body_leaves {C : Cx} {s : St} {a : Act} {w : World} {M : Nat → Prop} {ρ : Nat → Option Nat} {fn : Func} {R : Ending → World → Prop} (h : SatAt C s a w M ρ)
    (hR : ∀ w', SatAt C s { a with defers := [] } w' M ρ → ∃ v, (results fn a.tmps).run C.P w' = .ok v w' ∧ R (.returned v) w') : LeavesInM Fence.wide 0 C.P fn a.tmps R a.defers .returning w := by
  obtain ⟨⟨X, h1, h2, h3, h4⟩, h5, h6⟩ := h.ex
  refine leaves_marks _ _ (fun d hd => ?_) h5.1 fun w' hf => hR w' (h.leave hf)
  obtain ⟨D, e1, _, e3, _⟩ := h3 d hd
  exact ⟨D, e1, e3⟩

theorem SatAt.swap {C : Cx} {s : St} {a : Act} {w : World} {M : Nat → Prop} {ρ ρ2 : Nat → Option Nat} (h : SatAt C s a w M ρ) (h2 : ∀ l, l < s.n → ρ2 l = ρ l) : SatAt C s a w M ρ2 :=
  ⟨fun ρ' hρ => h.facts ρ' fun l hl => (hρ l hl).trans (h2 l hl), h.lab, fun l l' x x' b hx hx' hb hb' => h.inj l l' x x' b hx hx' ((h2 l (h.lab l x hx)).symm.trans hb) ((h2 l' (h.lab l' x' hx')).symm.trans hb'),
    h.fr, h.mlt, h.foreign, fun l x b hx hb => h.own l x b hx ((h2 l (h.lab l x hx)).symm.trans hb), h.size,
    h.ex.step (Fr.refl _ fun _ => False) (fun _ hb => hb.elim) h.fr.size (fun b hb => .inl hb) (fun b hb => .inl hb) (fun b ⟨l, x, hx, hb⟩ => ⟨h.mut hx ((h2 l (h.lab l x hx)).symm.trans hb), .inl ⟨l, x, hx, (h2 l (h.lab l x hx)).symm.trans hb⟩⟩) (fun _ _ _ hy => hy), h.n0, fun l hl => (h2 l (Nat.lt_of_lt_of_le hl h.n0)).trans (h.ag0 l hl)⟩

/-- The end of a function: its results; some boxes are kept, the others are let go. -/
def RetB (N0 N' : Nat) (σ0 : List (Nat × Bx)) (s : St) (rs : List RV) (post : AV → List (Nat × Bx) → Prop) : Prop :=
  resV s rs fun xs => ∃ keep : List Nat, s.n ≤ N' ∧ (∀ l ∈ keep, l < N0 → (look σ0 l).isSome = true) ∧ post (frz (dropL keep s.σ) 6 (tupV xs)) (keepL keep s.σ)

/-- A contract out of a body. -/
theorem fc_of_vc {P : Program} {f : FuncId} {fn : Func} {c : Code} {m : MC} {rs : List RV} {args : List AV} {N0 N' : Nat} {σ0 : List (Nat × Bx)} {post : AV → List (Nat × Bx) → Prop} (hf : P.funcs[f]? = some fn) (hb : fn.body = some c) (ht : TrC P fn.ntmps c m)
    (hr : fn.results.toList.mapM (trRes P) = some rs) (hn : args.length ≤ fn.ntmps) (hny : ∀ l b y, look σ0 l ≠ some (.yc b y))
    (hv : vc P N0 m ⟨args0 0 args, σ0, N0⟩ fun e s' => match e with
      | .normal => RetB N0 N' σ0 s' rs post
      | .ret => RetB N0 N' σ0 s' rs post
      | _ => False) : FC P f N0 args σ0 N' post := by
  intro w M ρ vs hM hd hlab hinj
  refine callsIn_wide.1 (callsIn_of_wp_marks (n := 0) (F := Fence.wide) hf hb trivial ?_)
  have hlen := (hd ρ fun _ _ => rfl).1.length
  let C0 : Cx := { P, r := none, w0 := w, M0 := M, S0 := Sg ρ σ0, N := fn.ntmps, m0 := hM, N0 := N0, ρ0 := ρ, yl := 0, yb := 0, J := fun _ _ _ _ => False, jst := fun _ _ _ _ _ _ _ h => h.elim }
  let C : Cx := C0.at none w M (Sg ρ σ0) hM N0 ρ
  have hs : Sat C ⟨args0 0 args, σ0, N0⟩ { tmps := vs.toArray ++ Array.replicate (fn.ntmps - vs.toArray.size) undef, defers := [] } w := by
    refine ⟨M, ρ, SatAt.init (C := C0) (s := ⟨args0 0 args, σ0, N0⟩) (fun ρ' hρ => ⟨fun i => ?_, fun l x hx => (hd ρ' hρ).2 l x hx⟩) hlab hinj hM ?_ rfl (Nat.le_refl _) (fun _ _ => rfl) hny⟩
    · simp only [St.get, look_args0, Nat.zero_le, if_true, Nat.sub_zero]
      cases hi : args[i]? with
      | none => simp [Den]
      | some x =>
        obtain ⟨y, hy, hdy⟩ := DenL.get (hd ρ' hρ).1 hi
        have : (vs.toArray ++ Array.replicate (fn.ntmps - vs.toArray.size) undef).getD i undef = y := by
          have hilt : i < vs.length := (List.getElem?_eq_some_iff.1 hy).1
          rw [Array.getD_eq_getD_getElem?, Array.getElem?_append_left (by simpa using hilt)]
          simp [hy]
        rw [this]
        exact hdy
    · simp
      show _ = fn.ntmps
      omega
  refine wpIn_mono (code_ok (C := C) ht rfl rfl (Cx.at_Y _ _ _ _ _ _ _ _) (.inr ⟨rfl, fun _ _ _ _ h => h⟩) hs hv) ?_
  rintro e a0 w0 ⟨s', hq, M', ρ', hs0⟩
  have fin : RetB N0 N' σ0 s' rs post → LeavesInM Fence.wide 0 P fn a0.tmps (FCR w M ρ N0 σ0 N' post) a0.defers .returning w0 := by
    intro hq
    refine body_leaves hs0 fun w' hs' => ?_
    obtain ⟨a', ha'⟩ : ∃ a' : Act, a' = { a0 with defers := [] } := ⟨_, rfl⟩
    have eta : a0.tmps = a'.tmps := by rw [ha']
    rw [← ha'] at hs'
    rw [eta]
    have hny' := hs'.nyc (fun _ _ _ _ h => h)
    obtain ⟨xs, ⟨keep, hn', hkeep, hp⟩, hdet⟩ := resV_det hq
    obtain ⟨xs1, vs', rfl, hdl, hrun⟩ := results_run hs' hr (hdet (fun x => x = xs) rfl)
    have hres : (results fn a'.tmps).run P w' = .ok (if h : vs'.toArray.size = 1 then vs'.toArray[0] else .tuple vs'.toArray) w' := by
      have : (fn.results.mapM (resM a')).run P w' = .ok vs'.toArray w' := by
        rw [Array.mapM_eq_mapM_toList, Sem.run_map]
        show (Sem.run C.P _ w').andThen _ = _
        rw [hrun]
        rfl
      unfold results
      show (fn.results.mapM (resM a') >>= _).run P w' = _
      rw [Sem.run_bind, this]
      rfl
    refine ⟨_, hres, ?_⟩
    have tup : ∀ ρ1 : Nat → Option Nat, DenL ⟨w', M', ρ1⟩ xs1 vs' → Den ⟨w', M', ρ1⟩ (tupV xs1) (if h : vs'.toArray.size = 1 then vs'.toArray[0] else .tuple vs'.toArray) := by
      intro ρ1 hdl
      match xs1, vs', hdl with
      | [x], [v], hdl =>
        simp only [DenL] at hdl
        simpa [tupV] using hdl.1
      | [], [], hdl => simp only [tupV, Den]; exact ⟨_, rfl, hdl⟩
      | x :: y :: xs, u :: v :: vs', hdl =>
        simp only [tupV, Den]
        refine ⟨(u :: v :: vs').toArray, ?_, by simpa using hdl⟩
        rw [dif_neg (by simp)]
      | [], _ :: _, hdl => simp [DenL] at hdl
      | _ :: _, [], hdl => simp [DenL] at hdl
      | [_], _ :: _ :: _, hdl => simp [DenL] at hdl
      | _ :: _ :: _, [_], hdl => simp [DenL] at hdl
    have hk : ∀ {l x}, look (keepL keep s'.σ) l = some x → l ∈ keep ∧ look s'.σ l = some x := fun h => look_keepL h
    refine ⟨_, ρ', _, keepL keep s'.σ, rfl, hp, hs'.ag0, fun l x hx => ⟨Nat.lt_of_lt_of_le (hs'.lab l x (hk hx).2) hn', fun hl => hkeep l (hk hx).1 hl, fun _ b hb => ?_⟩,
      fun l l' x x' b hx hx' => hs'.inj l l' x x' b (hk hx).2 (hk hx').2, hs'.fr, fun l x hx b y e => hny' l b y (e ▸ (hk hx).2), fun ρ2 h2 => ?_⟩
    · rcases hs'.own l x b (hk hx).2 hb with h1 | h1
      · exact .inr h1
      · exact .inl h1
    · have hag : ∀ l, l < s'.n → ρ2 l = ρ' l := fun l hl => h2 l (by omega)
      have hf' := hs'.facts ρ2 hag
      have hMM : ∀ b, ((M b ∧ ¬ Sg ρ σ0 b) ∨ Sg ρ' (keepL keep s'.σ) b) → M' b := by
        rintro b (⟨h1, h3⟩ | ⟨l, x, h1, h3⟩)
        · exact hs'.foreign b h1 h3
        · exact hs'.mut (hk h1).2 h3
      have le : KW.le ⟨w', M', ρ2⟩ ⟨w', fun b => (M b ∧ ¬ Sg ρ σ0 b) ∨ Sg ρ' (keepL keep s'.σ) b, ρ2⟩ :=
        ⟨Nat.le_refl _, fun b _ hm => ⟨fun hb => hm (hMM b hb), rfl⟩, fun _ c _ h => ⟨c, h, rfl⟩, rfl⟩
      obtain ⟨xs2, vs2, rfl, hdl2, hrun2⟩ := results_run (hs'.swap hag) hr (hdet (fun x => x = _) rfl)
      have ev : vs2 = vs' := by
        rw [hrun] at hrun2
        cases hrun2
        rfl
      subst ev
      refine ⟨frz_den le (fun l x hx => hf'.boxes l x (look_dropL hx).2) (fun l x b hx hb => ⟨fun hm => ?_, rfl⟩) 6 _ _ (tup ρ2 hdl2), fun l x hx => ?_⟩
      · obtain ⟨hl, hx⟩ := look_dropL hx
        have hb' : ρ' l = some b := by rw [← hag l (hs'.lab l x hx)]; exact hb
        rcases hm with ⟨h1, h3⟩ | ⟨l2, x2, h1, h3⟩
        · rcases hs'.own l x b hx hb' with h4 | h4
          · exact h3 h4
          · have := hM b h1
            have h4' : w.heap.size ≤ b := h4
            omega
        · exact hl (hs'.inj _ _ _ _ b hx (hk h1).2 hb' h3 ▸ (hk h1).1)
      · refine BxOK.mono le (fun b hb => ⟨fun _ => .inr ⟨l, x, hx, ?_⟩, rfl⟩) (hf'.boxes l x (hk hx).2)
        rw [← hag l (hs'.lab l x (hk hx).2)]
        exact hb
  cases e with
  | normal => exact fin hq
  | ret => exact fin hq
  | exit id => exact hq.elim
  | goto l => exact hq.elim
  | panic ch => exact hq.elim
  | outgrown => exact hq.elim

theorem dropL_nil : ∀ σ : List (Nat × Bx), dropL [] σ = σ
  | [] => rfl
  | (j, x) :: r => by simp [dropL, dropL_nil r]

theorem keepL_nil : ∀ σ : List (Nat × Bx), keepL [] σ = []
  | [] => rfl
  | (j, x) :: r => by simp [keepL, keepL_nil r]

/-- A contract out of a body, without boxes. -/
theorem fp_of_vc {P : Program} {f : FuncId} {fn : Func} {c : Code} {m : MC} {rs : List RV} {args : List AV} {post : AV → Prop} (hf : P.funcs[f]? = some fn) (hb : fn.body = some c) (ht : TrC P fn.ntmps c m)
    (hr : fn.results.toList.mapM (trRes P) = some rs) (hn : args.length ≤ fn.ntmps)
    (hv : vc P 0 m ⟨args0 0 args, [], 0⟩ fun e s' => match e with
      | .normal => RetO s' rs post
      | .ret => RetO s' rs post
      | _ => False) : FP P f args post := by
  intro w M ρ vs hM hd _ _
  refine callsIn_wide.1 (callsIn_of_wp_marks (n := 0) (F := Fence.wide) hf hb trivial ?_)
  have hlen := (hd ρ fun _ _ => rfl).1.length
  have hS : Sg ρ [] = fun _ => False := by
    funext b
    simp [Sg, look]
  let C0 : Cx := { P, r := none, w0 := w, M0 := M, S0 := fun _ => False, N := fn.ntmps, m0 := hM, N0 := 0, ρ0 := ρ, yl := 0, yb := 0, J := fun _ _ _ _ => False, jst := fun _ _ _ _ _ _ _ h => h.elim }
  let C : Cx := C0.at none w M (Sg ρ []) hM 0 ρ
  have hs : Sat C ⟨args0 0 args, [], 0⟩ { tmps := vs.toArray ++ Array.replicate (fn.ntmps - vs.toArray.size) undef, defers := [] } w := by
    refine ⟨M, ρ, SatAt.init (C := C0) (s := ⟨args0 0 args, [], 0⟩) (fun ρ' hρ => ⟨fun i => ?_, fun l x hx => by simp [look] at hx⟩) (fun l x hx => by simp [look] at hx) (fun l l' x x' b hx => by simp [look] at hx) hM ?_ rfl (Nat.le_refl _) (fun _ _ => rfl) (fun l b y => by simp [look])⟩
    · simp only [St.get, look_args0, Nat.zero_le, if_true, Nat.sub_zero]
      cases hi : args[i]? with
      | none => simp [Den]
      | some x =>
        obtain ⟨y, hy, hdy⟩ := DenL.get (hd ρ' hρ).1 hi
        have : (vs.toArray ++ Array.replicate (fn.ntmps - vs.toArray.size) undef).getD i undef = y := by
          have hilt : i < vs.length := (List.getElem?_eq_some_iff.1 hy).1
          rw [Array.getD_eq_getD_getElem?, Array.getElem?_append_left (by simpa using hilt)]
          simp [hy]
        rw [this]
        exact hdy
    · simp
      show _ = fn.ntmps
      omega
  refine wpIn_mono (code_ok (C := C) ht rfl rfl (Cx.at_Y _ _ _ _ _ _ _ _) (.inr ⟨rfl, fun _ _ _ _ h => h⟩) hs hv) ?_
  rintro e a0 w0 ⟨s', hq, M', ρ', hs0⟩
  have fin : RetO s' rs post → LeavesInM Fence.wide 0 P fn a0.tmps (FCR w M ρ 0 [] 0 (fun r σ => post r ∧ σ = [])) a0.defers .returning w0 := by
    intro hq
    refine body_leaves hs0 fun w' hs' => ?_
    obtain ⟨a', ha'⟩ : ∃ a' : Act, a' = { a0 with defers := [] } := ⟨_, rfl⟩
    have eta : a0.tmps = a'.tmps := by rw [ha']
    rw [← ha'] at hs'
    rw [eta]
    obtain ⟨xs, vs', ⟨hlb, hp⟩, hdl, hrun⟩ := results_run hs' hr hq
    have hres : (results fn a'.tmps).run P w' = .ok (if h : vs'.toArray.size = 1 then vs'.toArray[0] else .tuple vs'.toArray) w' := by
      have : (fn.results.mapM (resM a')).run P w' = .ok vs'.toArray w' := by
        rw [Array.mapM_eq_mapM_toList, Sem.run_map]
        show (Sem.run C.P _ w').andThen _ = _
        rw [hrun]
        rfl
      unfold results
      show (fn.results.mapM (resM a') >>= _).run P w' = _
      rw [Sem.run_bind, this]
      rfl
    refine ⟨_, hres, ?_⟩
    have htup : Den ⟨w', M', ρ'⟩ (tupV xs) (if h : vs'.toArray.size = 1 then vs'.toArray[0] else .tuple vs'.toArray) := by
      have hl := hdl.length
      match xs, vs', hdl with
      | [x], [v], hdl =>
        simp only [DenL] at hdl
        simpa [tupV] using hdl.1
      | [], [], hdl => simp only [tupV, Den]; exact ⟨_, rfl, hdl⟩
      | x :: y :: xs, u :: v :: vs', hdl =>
        simp only [tupV, Den]
        refine ⟨(u :: v :: vs').toArray, ?_, by simpa using hdl⟩
        rw [dif_neg (by simp)]
      | [], _ :: _, hdl => simp [DenL] at hdl
      | _ :: _, [], hdl => simp [DenL] at hdl
      | [_], _ :: _ :: _, hdl => simp [DenL] at hdl
      | _ :: _ :: _, [_], hdl => simp [DenL] at hdl
    refine ⟨_, ρ, _, [], rfl, ⟨hp, rfl⟩, fun l hl => absurd hl (by omega), fun l x hx => by simp [look] at hx, fun l l' x x' b hx => by simp [look] at hx, hs'.fr, fun l x hx => by simp [look] at hx, fun ρ'' _ => ⟨?_, fun l x hx => by simp [look] at hx⟩⟩
    · have hMM : (fun b => (M b ∧ ¬ Sg ρ [] b) ∨ Sg ρ [] b) = M := by
        rw [hS]
        funext b
        simp
      rw [hMM]
      refine Den.agree (ρ := ρ') (n := 0) (fun l hl => absurd hl (by omega)) _ _ hlb ?_
      have hf' := hs'.facts ρ' fun _ _ => rfl
      have hMsub : ∀ b, M b → M' b := fun b hb => hs'.foreign b hb (by show ¬ Sg ρ [] b; rw [hS]; exact id)
      refine frz_den (k := ⟨w', M', ρ'⟩) (k' := ⟨w', M, ρ'⟩) ⟨Nat.le_refl _, fun b _ hm => ⟨fun hb => hm (hMsub b hb), rfl⟩, fun _ c _ h => ⟨c, h, rfl⟩, rfl⟩ hf'.boxes ?_ 6 _ _ htup
      intro l x b hx hb
      refine ⟨fun hmb => ?_, rfl⟩
      rcases hs'.own l x b hx hb with h1 | h1
      · have h1' : Sg ρ [] b := h1
        rw [hS] at h1'
        exact h1'
      · have := hM b hmb
        have h1' : w.heap.size ≤ b := h1
        omega
  cases e with
  | normal => exact fin hq
  | ret => exact fin hq
  | exit id => exact hq.elim
  | goto l => exact hq.elim
  | panic ch => exact hq.elim
  | outgrown => exact hq.elim

/-- The end of an iterator. -/
def RetY (N b : Nat) (s : St) (rs : List RV) : Prop := resV s rs (fun _ => True) ∧ ∃ y, look s.σ N = some (.yc b y) ∧ (y = some [] ∨ y = none)

/-- An iterator's contract out of a body. -/
theorem ic_of_vc {P : Program} {f : FuncId} {fn : Func} {c : Code} {m : MC} {rs : List RV} {caps : List AV} {N : Nat} {σ : List (Nat × Bx)} {xs : List (List AV)} (hf : P.funcs[f]? = some fn) (hb : fn.body = some c) (ht : TrC P fn.ntmps c m) (hfl : m.flat = true)
    (hr : fn.results.toList.mapM (trRes P) = some rs) (hn : caps.length + 1 ≤ fn.ntmps) (hny : ∀ l b y, look σ l ≠ some (.yc b y))
    (hv : ∀ b, vc P (N + 1) m ⟨args0 0 (.vl (.func (.yield b) #[] #[]) :: caps), (N, .yc b (some xs)) :: σ, N + 1⟩ fun e s' => match e with
      | .normal => RetY N b s' rs
      | .ret => RetY N b s' rs
      | _ => False) : IC P f N caps σ xs := by
  intro b J hst hy w M X ρ vs hJ hM hXM hSX hd hlab hinj
  refine callsIn_wide.1 (callsIn_of_wp_marks (n := 0) (F := Fence.wide) hf hb trivial ?_)
  have hlen := (hd ρ fun _ _ => rfl).1.length
  let ρ1 : Nat → Option Nat := fun l => if l = N then none else ρ l
  let C : Cx := { P, r := none, w0 := w, M0 := M, S0 := M, N := fn.ntmps, m0 := hM, N0 := N + 1, ρ0 := ρ1, yl := N, yb := b, J, jst := hst }
  have hY : C.Y := ⟨hy, fun b _ h => h⟩
  have hlk : ∀ {l x}, look ((N, Bx.yc b (some xs)) :: σ) l = some x → (l = N ∧ x = .yc b (some xs)) ∨ (l ≠ N ∧ l < N ∧ look σ l = some x) := by
    intro l x hx
    simp only [look] at hx
    split at hx
    · rename_i e
      exact .inl ⟨e, by simpa using hx.symm⟩
    · rename_i e
      exact .inr ⟨e, (hlab l x hx).1, hx⟩
  have hsg : ∀ {l x b'}, look ((N, Bx.yc b (some xs)) :: σ) l = some x → ρ1 l = some b' → look σ l = some x ∧ ρ l = some b' := by
    intro l x b' hx hb'
    rcases hlk hx with ⟨e, _⟩ | ⟨e, _, hx⟩
    · simp [ρ1, e] at hb'
    · simp only [ρ1, if_neg e] at hb'
      exact ⟨hx, hb'⟩
  have hs : Sat C ⟨args0 0 (.vl (.func (.yield b) #[] #[]) :: caps), (N, .yc b (some xs)) :: σ, N + 1⟩ { tmps := (Value.func (.yield b) #[] #[] :: vs).toArray ++ Array.replicate (fn.ntmps - (Value.func (.yield b) #[] #[] :: vs).toArray.size) undef, defers := [] } w := by
    refine ⟨M, ρ1, fun ρ' hρ => ?_, fun l x hx => ?_, fun l l' x x' b' hx hx' hb hb' => ?_, Fr.refl _ _, hM, fun b' h _ => h, fun l x b' hx hb' => ?_, ?_, ?_, Nat.le_refl _, fun _ _ => rfl⟩
    · have hρ0 : ∀ l, l < N → ρ' l = ρ l := fun l hl => by
        rw [hρ l (by simp only; omega)]
        simp only [ρ1]
        rw [if_neg (by omega)]
      refine ⟨fun i => ?_, fun l x hx => ?_⟩
      · simp only [St.get, look_args0, Nat.zero_le, if_true, Nat.sub_zero]
        have hdl : DenL ⟨w, M, ρ'⟩ (.vl (.func (.yield b) #[] #[]) :: caps) (Value.func (.yield b) #[] #[] :: vs) := by
          simp only [DenL]
          exact ⟨by simp [Den], (hd ρ' hρ0).1⟩
        cases hi : (AV.vl (.func (.yield b) #[] #[]) :: caps)[i]? with
        | none => simp [Den]
        | some x =>
          obtain ⟨y, hy, hdy⟩ := DenL.get hdl hi
          have : ((Value.func (.yield b) #[] #[] :: vs).toArray ++ Array.replicate (fn.ntmps - (Value.func (.yield b) #[] #[] :: vs).toArray.size) undef).getD i undef = y := by
            have hilt : i < (Value.func (.yield b) #[] #[] :: vs).length := (List.getElem?_eq_some_iff.1 hy).1
            rw [Array.getD_eq_getD_getElem?, Array.getElem?_append_left (by simpa using hilt), List.getElem?_toArray, hy]
            rfl
          rw [this]
          exact hdy
      · rcases hlk hx with ⟨e1, e2⟩ | ⟨_, hl, hx⟩
        · rw [e1, e2]
          show ρ' N = none
          rw [hρ N (by simp)]
          simp [ρ1]
        · exact (hd ρ' hρ0).2 l x hx
    · rcases hlk hx with ⟨e, _⟩ | ⟨_, hl, _⟩
      · simp [e]
      · simp only
        omega
    · obtain ⟨h1, h2⟩ := hsg hx hb
      obtain ⟨h3, h4⟩ := hsg hx' hb'
      exact hinj l l' x x' b' h1 h3 h2 h4
    · obtain ⟨h1, h2⟩ := hsg hx hb'
      exact .inl (hXM b' (hSX b' ⟨l, x, h1, h2⟩))
    · simp
      show _ = fn.ntmps
      omega
    · refine ⟨⟨X, ?_, hXM, by simp, fun l b' y hy => ?_⟩, ⟨List.nodup_nil, fun _ => rfl⟩, fun b' h => .inl h⟩
      · rintro b' ⟨l, x, hx, hb'⟩
        obtain ⟨h1, h2⟩ := hsg hx hb'
        exact hSX b' ⟨l, x, h1, h2⟩
      · rcases hlk hy with ⟨e1, e2⟩ | ⟨_, _, hx⟩
        · cases e2
          exact ⟨e1, rfl, hJ⟩
        · exact absurd hx (hny l b' y)
  refine wpIn_mono (code_ok (C := C) ht rfl rfl hY (.inl hfl) hs (hv b)) ?_
  rintro e a0 w0 ⟨s', hq, M', ρ', hs0⟩
  have fin : RetY N b s' rs → LeavesInM Fence.wide 0 P fn a0.tmps (fun e w' => ∃ v y X' M', e = .returned v ∧ (y = some [] ∨ y = none) ∧ J y w' X' M') a0.defers .returning w0 := by
    rintro ⟨hres, y, hy, hyy⟩
    refine body_leaves hs0 fun w' hs' => ?_
    obtain ⟨a', ha'⟩ : ∃ a' : Act, a' = { a0 with defers := [] } := ⟨_, rfl⟩
    have eta : a0.tmps = a'.tmps := by rw [ha']
    rw [← ha'] at hs'
    rw [eta]
    obtain ⟨xs1, vs', _, hdl, hrun⟩ := results_run hs' hr hres
    have hres : (results fn a'.tmps).run P w' = .ok (if h : vs'.toArray.size = 1 then vs'.toArray[0] else .tuple vs'.toArray) w' := by
      have : (fn.results.mapM (resM a')).run P w' = .ok vs'.toArray w' := by
        rw [Array.mapM_eq_mapM_toList, Sem.run_map]
        show (Sem.run C.P _ w').andThen _ = _
        rw [hrun]
        rfl
      unfold results
      show (fn.results.mapM (resM a') >>= _).run P w' = _
      rw [Sem.run_bind, this]
      rfl
    obtain ⟨⟨X', _, _, _, h4⟩, _⟩ := hs'.ex
    exact ⟨_, hres, _, y, X', M', rfl, hyy, (h4 N b y hy).2.2⟩
  cases e with
  | normal => exact fin hq
  | ret => exact fin hq
  | exit id => exact hq.elim
  | goto l => exact hq.elim
  | panic ch => exact hq.elim
  | outgrown => exact hq.elim
end Go.QL
