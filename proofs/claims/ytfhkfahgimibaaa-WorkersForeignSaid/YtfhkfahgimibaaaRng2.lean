/- A range over an iterator, walked. -/
import Derived.Test.YtfhkfahgimibaaaRng
namespace Go.QL

def MC.flat : MC → Bool
  | .rng .. => false
  | .seq a b => a.flat && b.flat
  | .cond _ a b => a.flat && b.flat
  | .block _ a => a.flat
  | .loop a => a.flat
  | _ => true

section
variable {C : Cx} {T : List (Nat × AV)} {a : Act} {l : Nat} {I : List (List AV) → List (Nat × Bx) → Nat → Prop} {Q : Exit → St → Prop} {ps : Array Tmp} {assign body : Code} {x y : MC} {rc : LoopState → Option Code → Loop} {fn : FuncId} {D : Nat}

/-- A round is what the iterator is told of a yield. -/
theorem RJ_y (hr : C.r = none) (hJ : ∀ y w X M, ¬ C.J y w X M) (hps : ∀ p ∈ ps.toList, p < C.N) (hrc : ∀ st pe, rc st pe = { state := st, pending := pe, fn, tmps := a.tmps, params := ps, assign, body, defers := D })
    (hA : ∀ C' : Cx, C'.P = C.P → C'.N = C.N → C'.Y → C'.r = some l → ∀ {s : St} {a : Act} {w : World} {Q : Exit → St → Prop}, Sat C' s a w → vc C.P C'.N0 x s Q → assign.wpIn C'.F 0 C.P (fun e a' w' => ∃ s', Q e s' ∧ Sat C' s' a' w') a w)
    (hB : ∀ C' : Cx, C'.P = C.P → C'.N = C.N → C'.Y → C'.r = some l → ∀ {s : St} {a : Act} {w : World} {Q : Exit → St → Prop}, Sat C' s a w → vc C.P C'.N0 y s Q → body.wpIn C'.F 0 C.P (fun e a' w' => ∃ s', Q e s' ∧ Sat C' s' a' w') a w)
    (hround : ∀ z rest σ n, I (z :: rest) σ n → z.length = ps.toList.length → lbs 0 z → vc C.P n x ⟨bindT ps.toList z T, σ, n⟩ fun e s' => match e with
      | .normal => vc C.P n y s' fun e s' => match e with
        | .normal => ∃ σ1 n1, I rest σ1 n1 ∧ C.N0 ≤ n1 ∧ St.le { s' with t := T } ⟨T, σ1, n1⟩
        | .ret => Q .ret ⟨T, s'.σ, s'.n⟩
        | .exit i => Q (.exit i) ⟨T, s'.σ, s'.n⟩
        | _ => False
      | _ => False) : YSp C.P l (RJ C T a l rc ps.toList.length I Q) := by
  rintro z rest W X MW vs ⟨σ, n, Mc, ρ, hMW, hI, hxs, hT, h⟩ hden
  have hs := h.sat
  obtain ⟨hzl, hz0⟩ := hxs z (by simp)
  have hvl : vs.length = z.length := (hden ρ).length.symm
  have hl : l < W.heap.size := (Array.getElem?_eq_some_iff.1 h.rcd).1
  have hy := run_yield (P := C.P) (args := vs.toArray) h.rcd (by rw [hrc]; simp; rw [hvl, hzl]; simp)
  have hfold : ((rc .ready none).params.zip vs.toArray).foldl (fun tmps (t, a) => tmps.setIfInBounds t a) (rc .ready none).tmps = (ps.toList.zip vs).foldl (fun t p => t.setIfInBounds p.1 p.2) a.tmps := by
    rw [hrc, ← Array.foldl_toList]
    simp
  rw [hfold] at hy
  have ny := hs.nyc hJ
  have hdz : ∀ ρ', DenL ⟨W, Mc, ρ'⟩ z vs := fun ρ' => DenL.mono (k := ⟨W, MW, ρ'⟩) (k' := ⟨W, Mc, ρ'⟩) ⟨Nat.le_refl _, fun b _ hm => ⟨fun h1 => hm (hMW b h1), rfl⟩, fun _ c _ h => ⟨c, h, rfl⟩, rfl⟩ _ _ (hden ρ')
  have hsA : SatAt (C.at (some l) W Mc (Sg ρ σ) hs.mlt n ρ) ⟨bindT ps.toList z T, σ, n⟩ { tmps := (ps.toList.zip vs).foldl (fun t p => t.setIfInBounds p.1 p.2) a.tmps, defers := [] } W Mc ρ := by
    refine SatAt.init (s := ⟨bindT ps.toList z T, σ, n⟩) (fun ρ' hρ => ⟨fun i => ?_, (hs.facts ρ' hρ).boxes⟩) hs.lab hs.inj hs.mlt ?_ rfl (Nat.le_refl _) (fun _ _ => rfl) ny
    · exact bind_den ps.toList z vs T a.tmps (fun p hp => by rw [hs.size]; exact hps p hp) (hdz ρ') (hs.facts ρ' hρ).tmps i
    · simp only [foldl_size]
      exact hs.size
  refine ⟨_, _, _, _, hy, roundIn_of_wpIn trivial ?_⟩
  have hassign : (rc .ready none).assign = assign := by rw [hrc]
  have hbody : (rc .ready none).body = body := by rw [hrc]
  rw [hassign, hbody]
  have hv := hround z rest σ n hI hzl hz0
  refine wpIn_mono (hA (C.at (some l) W Mc (Sg ρ σ) hs.mlt n ρ) rfl rfl (C.at_Y _ _ _ _ _ _ _) rfl ⟨Mc, ρ, hsA⟩ hv) ?_
  rintro e a1 w1 ⟨s1, hq, M1, ρ1, hs1⟩
  cases e with
  | normal =>
    have hl1 : w1.heap[l]? = some (.loop (rc .ready none)) := (hs1.fr.keep l hl h.nl).trans h.rcd
    have hm1 : M1 l := hs1.foreign l h.ml h.nl
    have hn1 : ¬ Sg ρ1 s1.σ l := by
      rintro ⟨i, u, hu, hb⟩
      rcases hs1.own i u l hu hb with h1 | h1
      · exact h.nl h1
      · have : W.heap.size ≤ l := h1
        omega
    have hbr := run_beginRound (P := C.P) hl1 (by rw [hrc])
    refine ⟨_, hbr, ?_⟩
    have hf2 : Fr w1 (fun b => b = l) (w1.putObj l (.loop { rc .ready none with state := .busy })) := Fr.putObj hl1 (fun _ _ _ => by simp)
    have hl2 : (w1.putObj l (.loop { rc .ready none with state := .busy })).heap[l]? = some (.loop { rc .ready none with state := .busy }) := World.putObj_heap_same (Array.getElem?_eq_some_iff.1 hl1).1
    generalize hw2 : w1.putObj l (.loop { rc .ready none with state := .busy }) = w2 at hf2 hl2 ⊢
    have le2 : ∀ ρ', KW.le ⟨w1, M1, ρ'⟩ ⟨w2, M1, ρ'⟩ := fun ρ' => ⟨hf2.size, fun b hb hm => ⟨hm, hf2.keep b hb fun e => hm (e ▸ hm1)⟩, hf2.rows, rfl⟩
    have hlt2 : ∀ b, M1 b → b < w2.heap.size := fun b hb => Nat.lt_of_lt_of_le (hs1.mlt b hb) hf2.size
    have ny1 := hs1.nyc (fun _ _ _ _ h => h)
    have hda : a1.defers = [] := hs1.ex.2.1.2 (by simp [Cx.at])
    have hsB : SatAt (C.at (some l) w2 M1 (Sg ρ1 s1.σ) hlt2 n ρ1) s1 a1 w2 M1 ρ1 := by
      refine SatAt.init (fun ρ' hρ => ⟨fun i => Den.mono (le2 ρ') _ _ ((hs1.facts ρ' hρ).tmps i), fun i u hu => ?_⟩) hs1.lab hs1.inj hlt2 hs1.size hda hs1.n0 (fun _ _ => rfl) ny1
      have hbx := (hs1.facts ρ' hρ).boxes i u hu
      refine BxOK.mono (le2 ρ') (fun b hb => ⟨id, hf2.keep b (hs1.mlt b (BxOK.lt hbx hb)) fun e => hn1 ⟨i, u, hu, ?_⟩⟩) hbx
      rw [← hρ i (hs1.lab i u hu), ← e]
      exact hb
    refine wpIn_mono (hB (C.at (some l) w2 M1 (Sg ρ1 s1.σ) hlt2 n ρ1) rfl rfl (C.at_Y _ _ _ _ _ _ _) rfl ⟨M1, ρ1, hsB⟩ hq) ?_
    rintro e2 a2 w3 ⟨s2, hq2, M3, ρ3, hs2⟩
    have hl3 : w3.heap[l]? = some (.loop { rc .ready none with state := .busy }) := (hs2.fr.keep l (Array.getElem?_eq_some_iff.1 hl2).1 hn1).trans hl2
    have fin : ∀ jump : Option Code, ∃ w4, (Instr.endRound l jump).run C.P w3 = .ok (.bool jump.isNone) w4 ∧ RSt C T a l (.loop (rc (if jump.isNone then .ready else .done) jump)) s2.σ s2.n w4 X M3 ρ3 ∧
        Fr W (fun b => MW b ∧ ¬ X b) w4 ∧ (∀ b, b < W.heap.size → M3 b → MW b) ∧ (∀ b, X b → M3 b) ∧ ∀ b, M3 b → b < w4.heap.size := by
      intro jump
      have hend := run_endRound (P := C.P) jump hl3
      refine ⟨_, hend, ?_⟩
      have hf4 : Fr w3 (fun b => b = l) (w3.putObj l (.loop { { rc .ready none with state := .busy } with state := if jump.isNone then .ready else .done, pending := jump })) := Fr.putObj hl3 (fun _ _ _ => by simp)
      have hl4 := World.putObj_heap_same (w := w3) (o := .loop { { rc .ready none with state := .busy } with state := if jump.isNone then .ready else .done, pending := jump }) (Array.getElem?_eq_some_iff.1 hl3).1
      have erc : (.loop { { rc .ready none with state := .busy } with state := if jump.isNone then .ready else .done, pending := jump } : Obj) = .loop (rc (if jump.isNone then .ready else .done) jump) := by
        rw [hrc, hrc]
      rw [erc] at hl4 hf4 ⊢
      obtain ⟨h1, h2, h3, h4, h5⟩ := h.after hr hJ hT hs1 hf2 hs2 hf4 hl4 (fun _ => by simp)
      exact ⟨h1, h2.mono fun b hb => ⟨hMW b hb.1, hb.2⟩, fun b hb hm => hMW b (h3 b hb hm), h4, h5⟩
    cases e2 with
    | normal =>
      obtain ⟨σ1, n1, hI1, hn1', hle⟩ := hq2
      obtain ⟨w4, hend, h1, h2, h3, h4, h5⟩ := fin none
      refine ⟨_, w4, hend, true, M3, rfl, ?_, h2, h3, h4, h5⟩
      exact ⟨σ1, n1, M3, ρ3, fun _ h => h, hI1, fun u hu => hxs u (by simp [hu]), fun i u hu => hle.lt i u hu, h1.le hn1' hle⟩
    | ret =>
      obtain ⟨w4, hend, h1, h2, h3, h4, h5⟩ := fin (some .ret)
      exact ⟨_, w4, hend, false, M3, rfl, ⟨s2.σ, s2.n, M3, ρ3, fun _ h => h, .ret, .ret, rfl, hq2, h1⟩, h2, h3, h4, h5⟩
    | exit i =>
      obtain ⟨w4, hend, h1, h2, h3, h4, h5⟩ := fin (some (.exit i))
      exact ⟨_, w4, hend, false, M3, rfl, ⟨s2.σ, s2.n, M3, ρ3, fun _ h => h, .exit i, .exit i, rfl, hq2, h1⟩, h2, h3, h4, h5⟩
    | goto t => exact hq2.elim
    | panic ch => exact hq2.elim
    | outgrown => exact hq2.elim
  | ret => exact hq.elim
  | exit i => exact hq.elim
  | goto t => exact hq.elim
  | panic ch => exact hq.elim
  | outgrown => exact hq.elim
end

theorem range_ok {C : Cx} {g : Operand} {ps : Array Tmp} {assign body : Code} {x y : MC} (hr : C.r = none) (hJ : ∀ y w X M, ¬ C.J y w X M) (hps : ∀ p ∈ ps.toList, p < C.N)
    (hA : ∀ (l : Nat) (C' : Cx), C'.P = C.P → C'.N = C.N → C'.Y → C'.r = some l → ∀ {s : St} {a : Act} {w : World} {Q : Exit → St → Prop}, Sat C' s a w → vc C.P C'.N0 x s Q → assign.wpIn C'.F 0 C.P (fun e a' w' => ∃ s', Q e s' ∧ Sat C' s' a' w') a w)
    (hB : ∀ (l : Nat) (C' : Cx), C'.P = C.P → C'.N = C.N → C'.Y → C'.r = some l → ∀ {s : St} {a : Act} {w : World} {Q : Exit → St → Prop}, Sat C' s a w → vc C.P C'.N0 y s Q → body.wpIn C'.F 0 C.P (fun e a' w' => ∃ s', Q e s' ∧ Sat C' s' a' w') a w)
    {s : St} {a : Act} {w : World} {Q : Exit → St → Prop} (hs : Sat C s a w)
    (hv : RangeO C.P C.N0 ps.toList (fun n s Q => vc C.P n x s fun e s' => match e with
      | .normal => vc C.P n y s' Q
      | _ => False) (s.ev g) s Q) :
    (Code.rangeFunc g ps assign body).wpIn C.F 0 C.P (fun e a' w' => ∃ s', Q e s' ∧ Sat C s' a' w') a w := by
  obtain ⟨M, ρ, hs⟩ := hs
  have hden := ev_all hs g
  unfold RangeO at hv
  split at hv
  · rename_i gf caps heq
    rw [heq] at hden
    obtain ⟨hent, π, caps', σc, xs, T, I, rfl, hlc, hnd, hπ, hσc, hIC, hxs, ⟨σ0, n0, hI0, hn0, hle0⟩, hround, hdone⟩ := hv
    have h0 := hden ⟨ρ, fun _ _ => rfl⟩
    simp only [Den] at h0
    obtain ⟨fs, cs, hg, hfs, hcs⟩ := h0
    have hfs0 : fs = #[] := by
      cases fs with
      | mk l => cases l with
        | nil => rfl
        | cons _ _ => simp [DenL] at hfs
    subst hfs0
    have ny := hs.nyc hJ
    have hs1 : SatAt C ⟨T, σ0, n0⟩ a w M ρ := (hs.drop (σ' := dropL (σc.map fun p => π.getD p.1 0) s.σ) fun l x hx => (look_dropL hx).2).weaken hn0 hle0
    let Xh : Nat → Prop := fun b => ∃ i u, look σc i = some u ∧ ρ (π.getD i 0) = some b
    have xh : ∀ {b}, Xh b → ∃ i u, look s.σ i = some u ∧ ρ i = some b ∧ i ∈ σc.map fun p => π.getD p.1 0 := by
      rintro b ⟨i, u, hu, hb⟩
      exact ⟨_, _, (hσc i u hu).2.2, hb, List.mem_map.2 ⟨(i, u), look_mem hu, rfl⟩⟩
    have xm : ∀ b, Xh b → M b := fun b hb => by
      obtain ⟨i, u, hu, hb, _⟩ := xh hb
      exact hs.mut hu hb
    have xo : ∀ b, Xh b → ¬ Sg ρ σ0 b := by
      rintro b hb ⟨i, u, hu, hb2⟩
      obtain ⟨i', u', hu', hb', hmem⟩ := xh hb
      have h1 := hle0.σ i u hu
      obtain ⟨h2, h3⟩ := look_dropL h1
      exact h2 (hs.inj i i' u u' b h3 hu' hb2 hb' ▸ hmem)
    have hro : C.F.round = none := hr
    have hFw : C.F = Fence.wide := by
      unfold Cx.F
      rw [hr]
      rfl
    refine wpIn_rangeFunc ?_
    intro fn _
    rw [hro]
    obtain ⟨rc, hrc⟩ : ∃ rc : LoopState → Option Code → Loop, rc = fun st pe => { state := st, pending := pe, fn, tmps := a.tmps, params := ps, assign, body, defers := w.heap.size } := ⟨_, rfl⟩
    have hent1 := run_enterLoop_outer (P := C.P) (w := w) fn a.tmps ps assign body
    have erc : ({ state := .ready, pending := none, fn, tmps := a.tmps, params := ps, assign, body, defers := w.heap.size } : Loop) = rc .ready none := by rw [hrc]
    rw [erc] at hent1
    have hf1 : Fr w (fun _ => False) ((w.alloc (.deferred (some []))).alloc (.loop (rc .ready none))) := (Fr.alloc w _ _).trans (Fr.alloc _ _ (fun _ => False)) fun _ _ h => h
    have hL1 : ((w.alloc (.deferred (some []))).alloc (.loop (rc .ready none))).heap[w.heap.size + 1]? = some (.loop (rc .ready none)) := by
      have := World.alloc_heap_new (w.alloc (.deferred (some []))) (.loop (rc .ready none))
      rwa [World.size_alloc] at this
    have hK1 : ((w.alloc (.deferred (some []))).alloc (.loop (rc .ready none))).heap[w.heap.size]? = some (.deferred (some [])) :=
      (RowKit.Below.heap_alloc _ _ _ (by rw [World.size_alloc]; omega)).trans (World.alloc_heap_new w _)
    have hz1 : ((w.alloc (.deferred (some []))).alloc (.loop (rc .ready none))).heap.size = w.heap.size + 2 := by simp
    generalize hW1 : (w.alloc (.deferred (some []))).alloc (.loop (rc .ready none)) = W1 at hent1 hf1 hL1 hK1 hz1
    refine ⟨w.heap.size + 1, [mark w.heap.size], W1, { target := .fn (.func gf) cs, args := #[.func (.yield (w.heap.size + 1)) #[] #[]] }, W1, gf, #[.func (.yield (w.heap.size + 1)) #[] #[]] ++ cs, W1, hent1, ?_, ?_, ?_, ?_, ?_⟩
    · simp only [resolve, hg]
      simp [go_sem]
    · intro f' _
      rw [hFw]
      trivial
    · have heg : ∀ args w, (callFunc gf args).run C.P w = .ok (.enter gf args) w := hent
      simp [invoke, go_sem, heg]
    · intro hd
      simp [Cx.F, Fence.wide] at hd
    · obtain ⟨a', ha'⟩ : ∃ a' : Act, a' = { a with defers := [mark w.heap.size] ++ a.defers } := ⟨_, rfl⟩
      have hat : a'.tmps = a.tmps := by rw [ha']
      have had : a'.defers = mark w.heap.size :: a.defers := by rw [ha']; rfl
      rw [← ha']
      have lt1 : ∀ {b}, M b → b < w.heap.size := fun hb => hs.mlt _ hb
      let M1 : Nat → Prop := fun b => M b ∨ b = w.heap.size ∨ b = w.heap.size + 1
      have le1 : ∀ ρ', KW.le ⟨w, M, ρ'⟩ ⟨W1, M1, ρ'⟩ := fun ρ' => ⟨hf1.size, fun b hb hm => ⟨fun h1 => h1.elim hm fun h1 => by have : b < w.heap.size := hb; omega, hf1.keep b hb id⟩, hf1.rows, rfl⟩
      have bx1 : ∀ ρ' i u, BxOK ⟨w, M, ρ'⟩ i u → BxOK ⟨W1, M1, ρ'⟩ i u := fun ρ' i u h => BxOK.mono (le1 ρ') (fun b hb => ⟨.inl, hf1.keep b (lt1 (BxOK.lt h hb)) id⟩) h
      have hmk : ∀ d ∈ a.defers, ∃ D, d = mark D ∧ C.w0.heap.size ≤ D ∧ w.heap[D]? = some (.deferred (some [])) ∧ M D ∧ ¬ Sg ρ s.σ D := by
        obtain ⟨⟨Y, _, h2, h3, _⟩, _⟩ := hs.ex
        intro d hd
        obtain ⟨D, e1, e2, e3, e4, e5⟩ := h3 d hd
        exact ⟨D, e1, e2, e3, h2 D e4, e5⟩
      have sg0 : ∀ {b}, Sg ρ σ0 b → Sg ρ s.σ b := fun ⟨i, u, hu, hb⟩ => ⟨i, u, (look_dropL (hle0.σ i u hu)).2, hb⟩
      have hs2 : SatAt C ⟨T, σ0, n0⟩ a' W1 M1 ρ := by
        refine ⟨fun ρ' hρ => ⟨fun i => ?_, fun i u hu => bx1 _ _ _ ((hs1.facts ρ' hρ).boxes i u hu)⟩, hs1.lab, hs1.inj, hs1.fr.trans hf1 fun _ _ h => h.elim, ?_, fun b h1 h2 => .inl (hs1.foreign b h1 h2), hs1.own, by rw [hat]; exact hs1.size, ?_, hs1.n0, hs1.ag0⟩
        · rw [hat]
          exact Den.mono (le1 ρ') _ _ ((hs1.facts ρ' hρ).tmps i)
        · intro b hb
          rw [hz1]
          rcases hb with hb | hb
          · have := lt1 hb
            omega
          · omega
        · obtain ⟨⟨Y, h1, h2, h3, h4⟩, h5, h6⟩ := hs.ex
          refine ⟨⟨fun b => Sg ρ σ0 b ∨ ∃ d ∈ a'.defers, d = mark b, fun b hb => .inl hb, ?_, ?_, fun i b z hz => absurd (look_dropL (hle0.σ i _ hz)).2 (ny i b z)⟩, ⟨?_, fun hne => absurd hr hne⟩, ?_⟩
          · rintro b (⟨i, u, hu, hb⟩ | ⟨d, hd, rfl⟩)
            · exact .inl (hs1.mut hu hb)
            · rw [had, List.mem_cons] at hd
              rcases hd with hd | hd
              · exact .inr (.inl (mark_inj hd))
              · obtain ⟨D, e1, _, _, e4, _⟩ := hmk _ hd
                rw [mark_inj e1]
                exact .inl e4
          · intro d hd
            have hd0 := hd
            rw [had, List.mem_cons] at hd
            rcases hd with rfl | hd
            · refine ⟨w.heap.size, rfl, hs.fr.size, hK1, .inr ⟨_, hd0, rfl⟩, ?_⟩
              rintro ⟨i, u, hu, hb⟩
              have := lt1 (hs1.mut hu hb)
              omega
            · obtain ⟨D, e1, e2, e3, e4, e5⟩ := hmk d hd
              exact ⟨D, e1, e2, (hf1.keep D (lt1 e4) id).trans e3, .inr ⟨d, hd0, e1⟩, fun hsg => e5 (sg0 hsg)⟩
          · rw [had]
            refine List.nodup_cons.2 ⟨fun hd => ?_, h5.1⟩
            obtain ⟨D, e1, _, _, e4, _⟩ := hmk _ hd
            have := lt1 e4
            have := mark_inj e1
            omega
          · intro b hb
            rcases hb with hb | hb
            · exact h6 b hb
            · have := hs.fr.size
              exact .inr (by omega)
      have hR : RSt C T a' (w.heap.size + 1) (.loop (rc .ready none)) σ0 n0 W1 Xh M1 ρ := by
        refine ⟨hs2, hL1, .inr (.inr rfl), ?_, by have := hs.fr.size; omega, fun b hb => .inl (xm b hb), xo, fun hx => by have := lt1 (xm _ hx); omega, ?_, ?_⟩
        · rintro ⟨i, u, hu, hb⟩
          have := lt1 (hs1.mut hu hb)
          omega
        · intro d hd b e hx
          rw [had, List.mem_cons] at hd
          rcases hd with hd | hd
          · have := lt1 (xm _ hx)
            have := mark_inj (e.symm.trans hd)
            omega
          · obtain ⟨D, e1, _, _, _, e5⟩ := hmk d hd
            obtain ⟨i, u, hu, hb, _⟩ := xh hx
            refine e5 ⟨i, u, hu, ?_⟩
            rw [← mark_inj (e.symm.trans e1)]
            exact hb
        · intro b hb
          obtain ⟨i, u, hu, hb, _⟩ := xh hb
          exact hs.own i u b hu hb
      have hrc' : ∀ st pe, rc st pe = { state := st, pending := pe, fn, tmps := a'.tmps, params := ps, assign, body, defers := w.heap.size } := fun st pe => by rw [hrc, hat]
      have hYp : YSp C.P (w.heap.size + 1) (RJ C T a' (w.heap.size + 1) rc ps.toList.length I Q) := RJ_y hr hJ hps hrc' (hA _) (hB _) hround
      let ρc : Nat → Option Nat := fun i => if i < π.length then ρ (π.getD i 0) else none
      have ec : ∀ ρ' : Nat → Option Nat, (∀ i, i < π.length → ρ' i = ρc i) → ∀ i, i < π.length → ρ' i = ρ (π.getD i 0) := fun ρ' h i hi => by rw [h i hi]; simp [ρc, hi]
      have hcall := hIC (w.heap.size + 1) _ (RJ_st hJ) hYp W1 M1 Xh ρc cs.toList ⟨σ0, n0, M1, ρ, fun _ h => h, hI0, hxs, hle0.lt, hR⟩ hs2.mlt (fun b hb => .inl (xm b hb)) ?_ ?_ ?_ ?_
      · have := (callsIn_wide (n := 0 - 1)).2 hcall
        rw [hFw]
        have ea : (Value.func (.yield (w.heap.size + 1)) #[] #[] :: cs.toList).toArray = #[.func (.yield (w.heap.size + 1)) #[] #[]] ++ cs := by simp
        rw [ea] at this
        refine this.mono ?_
        rintro e w3 ⟨v, z, X', M', rfl, hz, σ', n', Mc, ρ', _, hz2⟩
        have fin : ∀ {o : Loop} {σ' : List (Nat × Bx)} {n' : Nat} {Mc : Nat → Prop} {ρ' : Nat → Option Nat}, RSt C T a' (w.heap.size + 1) (.loop o) σ' n' w3 X' Mc ρ' → ∀ o', Sat C ⟨T, σ', n'⟩ a' (w3.putObj (w.heap.size + 1) o') := by
          intro o σ' n' Mc ρ' hR o'
          refine ⟨Mc, ρ', hR.sat.putl (Fr.putObj hR.rcd (fun _ _ _ => by simp)) hR.ml hR.nl hR.l0 (fun d hd e => ?_) hJ⟩
          obtain ⟨⟨Y, _, _, h3, _⟩, _⟩ := hR.sat.ex
          obtain ⟨D, e1, _, e3, _, _⟩ := h3 d hd
          rw [← mark_inj (e.symm.trans e1), hR.rcd] at e3
          cases e3
        rcases hz with rfl | rfl
        · obtain ⟨hI, _, _, hR⟩ := hz2
          have hend := run_endLoop (P := C.P) hR.rcd (by rw [hrc]; simp)
          have hp : (rc .ready none).pending = none := by rw [hrc]
          rw [hp] at hend
          exact ⟨none, _, hend, _, hdone σ' n' hI, fin hR _⟩
        · obtain ⟨e, c, hj, hq, hR⟩ := hz2
          have hend := run_endLoop (P := C.P) hR.rcd (by rw [hrc]; simp)
          have hp : (rc .done (some c)).pending = some c := by rw [hrc]
          rw [hp] at hend
          refine ⟨some c, _, hend, ?_⟩
          cases e <;> simp [jmp] at hj
          · subst hj
            exact wpIn_exit ⟨_, hq, fin hR _⟩
          · subst hj
            exact wpIn_ret ⟨_, hq, fin hR _⟩
      · rintro b ⟨i, u, hu, hb⟩
        exact ⟨i, u, hu, by rw [← ec ρc (fun _ _ => rfl) i (hσc i u hu).1]; exact hb⟩
      · intro ρ' hρ
        refine ⟨(DenL.ren (ec ρ' hρ) caps' cs.toList hlc).2 (DenL.mono (le1 ρ) _ _ hcs), fun i u hu => ?_⟩
        obtain ⟨h1, h2, h3⟩ := hσc i u hu
        exact (BxOK.ren (ec ρ' hρ) h1 h2).2 (bx1 _ _ _ ((hs.facts ρ fun _ _ => rfl).boxes _ _ h3))
      · intro i u hu
        obtain ⟨h1, h2, h3⟩ := hσc i u hu
        refine ⟨h1, fun b z e => ?_⟩
        subst e
        exact ny _ b z h3
      · intro i i' u u' b hu hu' hb hb'
        obtain ⟨h1, _, h3⟩ := hσc i u hu
        obtain ⟨h1', _, h3'⟩ := hσc i' u' hu'
        rw [ec ρc (fun _ _ => rfl) i h1] at hb
        rw [ec ρc (fun _ _ => rfl) i' h1'] at hb'
        have e := hs.inj _ _ _ _ b h3 h3' hb hb'
        rw [List.getD_eq_getElem?_getD, List.getElem?_eq_getElem h1, List.getD_eq_getElem?_getD, List.getElem?_eq_getElem h1'] at e
        simp only [Option.getD_some] at e
        have hp := List.pairwise_iff_getElem.1 hnd
        rcases Nat.lt_trichotomy i i' with hlt | rfl | hlt
        · exact absurd e (hp i i' h1 h1' hlt)
        · rfl
        · exact absurd e.symm (hp i' i h1' h1 hlt)
  · exact hv.elim
end Go.QL
