/- Maps with flat keys. -/
import Derived.Test.YtfhkfahgimibaaaEqs
namespace Go.QL
section
variable {P : Program} {w : World}

theorem findAsking_ok {kt : TypeId} {ks : List Nat} {key : Value} (hk : flatT P 10000 kt = some ks) (hf : Formed P kt key) : ∀ {es : List MapEntry} {i : Nat} {r : Option (Nat × Value)},
    (∀ e ∈ es, Formed P kt e.key) → (∀ e ∈ es, (eqVs ks key.cells.toList e.key.cells.toList).isSome = true) →
    ∃ r, (Instr.findAsking kt key es i).run P w = .ok r w ∧ (∀ j v, r = some (j, v) → ∃ e, es[j - i]? = some e ∧ i ≤ j ∧ e.val = v ∧ eqVs ks key.cells.toList e.key.cells.toList = some true) ∧ (r = none → ∀ e ∈ es, eqVs ks key.cells.toList e.key.cells.toList = some false)
  | [], i, _, _, _ => ⟨none, rfl, by simp, by simp⟩
  | e :: es, i, r, h1, h2 => by
    obtain ⟨b, hb⟩ := Option.isSome_iff_exists.1 (h2 e (by simp))
    have heq := equalIn_flat (P := P) (w := w) 10000 kt ks key e.key b hk hf (h1 e (by simp)) hb
    have heq' : (Op.equal kt key e.key).run P w = .ok b w := heq
    cases b with
    | true =>
      refine ⟨some (i, e.val), ?_, ?_, by simp⟩
      · simp [Instr.findAsking, heq']
      · rintro j v hjv
        cases hjv
        exact ⟨e, by simp, Nat.le_refl _, rfl, hb⟩
    | false =>
      obtain ⟨r', hr, h3, h4⟩ := findAsking_ok (es := es) (i := i + 1) (r := r) hk hf (fun e he => h1 e (by simp [he])) (fun e he => h2 e (by simp [he]))
      refine ⟨r', ?_, fun j v hjv => ?_, fun hn e' he' => ?_⟩
      · simp [Instr.findAsking, heq', hr]
      · obtain ⟨e', he', hle, hv, hq⟩ := h3 j v hjv
        refine ⟨e', ?_, by omega, hv, hq⟩
        rw [show j - i = (j - (i + 1)) + 1 by omega]
        simpa using he'
      · rcases List.mem_cons.1 he' with rfl | he'
        · exact hb
        · exact h4 hn e' he'

theorem checkKey_scal {kt : TypeId} {v : Value} {d : TypeDesc} (hu : P.underlying kt = some d) (hd : (match d with | .int _ | .bool | .string => True | _ => False)) (e : Bool) (n : Nat) : (Instr.checkKey e (n + 1) kt v).run P w = .ok () w := by
  cases d <;> simp at hd <;> simp [Instr.checkKey, run_underlying hu]

/-- A part of a flat row. -/
theorem part_ok {d : Nat} {t : TypeId} {ks : List Nat} {zs : Array Value} {off : Nat} {r : Bool} (hF : flatT P d t = some ks) (hZ : szOf P t = some ks.length) (he : eqVs ks ((zs.toList.drop off).take ks.length) ((zs.toList.drop off).take ks.length) = some r) :
    ∃ z, (part t zs off).run P w = .ok z w ∧ Formed P t z ∧ z.cells.toList = (zs.toList.drop off).take ks.length := by
  have hlen := (eqVs_len he).1
  have hF' := hF
  unfold flatT at hF'
  split at hF'
  · cases hF'
  · rename_i d'
    have scal : ∀ (dd : TypeDesc) (k : Nat), P.underlying t = some dd → isRowTy dd = false → ks = [k] → (match P.underlying t with | some (.struct _) => False | _ => True) →
        ∃ z, (part t zs off).run P w = .ok z w ∧ Formed P t z ∧ z.cells.toList = (zs.toList.drop off).take ks.length := by
      intro dd k hu hr hm hns
      subst hm
      have hlt : off < zs.size := by
        simp at hlen
        omega
      have htk : (zs.toList.drop off).take [k].length = [zs[off]] := by
        rw [List.drop_eq_getElem_cons (by simpa using hlt)]
        simp
      have hcell : (zs[off]).cells = #[zs[off]] := by
        rw [htk] at he
        obtain ⟨v, vs', u, us', a, b, hv, hu', ha, _⟩ := eqVs_cons he
        cases hv
        exact (sameB_cell ha).1
      refine ⟨zs[off], ?_, ?_, ?_⟩
      · simp [part, isStr_run hu, hr, hlt]
      · unfold Formed
        split
        · rename_i fs' hst
          rw [hst] at hns
          exact hns.elim
        · exact hcell
      · rw [hcell, htk]
    split at hF'
    · rename_i kk hu
      exact scal _ 0 hu rfl (by simpa using hF'.symm) (by rw [hu]; trivial)
    · rename_i hu
      exact scal _ 1 hu rfl (by simpa using hF'.symm) (by rw [hu]; trivial)
    · rename_i hu
      exact scal _ 2 hu rfl (by simpa using hF'.symm) (by rw [hu]; trivial)
    · rename_i fs' hu
      refine ⟨.agg (zs.extract off (off + ks.length)), ?_, ?_, ?_⟩
      · simp [part, isStr_run hu, isRowTy, szOf_spec hZ]
      · unfold Formed
        rw [hu]
        exact ⟨_, rfl⟩
      · simp [Value.cells, List.extract_eq_take_drop]
    · cases hF'

theorem checkKey_flat (em : Bool) : ∀ (d n : Nat) (t : TypeId) (ks : List Nat) (x : Value) (r : Bool), flatT P d t = some ks → Formed P t x → eqVs ks x.cells.toList x.cells.toList = some r → (Instr.checkKey em (d + n) t x).run P w = .ok () w := by
  intro d
  induction d with
  | zero => intro n t ks x r h; simp [flatT] at h
  | succ d ih =>
    intro n t ks x r h hx he
    rw [show d + 1 + n = (d + n) + 1 by omega]
    unfold flatT at h
    split at h
    · rename_i kk hu
      simp [Instr.checkKey, run_underlying hu]
    · rename_i hu
      simp [Instr.checkKey, run_underlying hu]
    · rename_i hu
      simp [Instr.checkKey, run_underlying hu]
    · rename_i fs hu
      split at h
      · cases h
      · unfold Formed at hx
        rw [hu] at hx
        obtain ⟨xs, rfl⟩ := hx
        simp only [Instr.checkKey, Sem.run_bind, run_underlying hu, Result.andThen_ok]
        rw [← Array.forIn_toList]
        have go : ∀ (l : List Field) (off : Nat) (ls : List Nat) (r : Bool), flatF (flatT P d) (szOf P) l off = some ls → eqVs ls (xs.toList.drop off) (xs.toList.drop off) = some r →
            (forIn l PUnit.unit fun f _ => (if f.name ≠ "_" then do
                let z ← part f.type xs f.offset
                Instr.checkKey em (d + n) f.type z
                pure (ForInStep.yield PUnit.unit)
              else pure (ForInStep.yield PUnit.unit) : Sem (ForInStep PUnit))).run P w = .ok PUnit.unit w := by
          intro l
          induction l with
          | nil => intro off ls r _ _; rfl
          | cons f l ihl =>
            intro off ls r hls hr
            simp only [flatF] at hls
            split at hls
            · rename_i ks' m hF hZ
              split at hls
              · rename_i hc
                obtain ⟨hn, ho, rfl⟩ := hc
                simp only [Option.map_eq_some_iff] at hls
                obtain ⟨ls', hls', rfl⟩ := hls
                obtain ⟨r1, r2, e1, e2, rfl⟩ := eqVs_app hr
                rw [List.drop_drop] at e2
                obtain ⟨z, pz, fz, cz⟩ := part_ok (P := P) (w := w) hF hZ e1
                have hck := ih n f.type ks' z r1 hF fz (by rw [cz]; exact e1)
                rw [← ho] at pz
                simp only [List.forIn_cons, Sem.run_bind, if_pos hn, pz, hck, Result.andThen_ok, Sem.run_pure]
                exact ihl _ _ r2 hls' e2
              · cases hls
            · cases hls
        have := go fs.toList 0 ks r h (by simpa [Value.cells] using he)
        rw [this]
        rfl
    · cases h

/-- Finding a key among the entries, by abstract values. -/
theorem find_ok {k : KW} {kt : TypeId} {ks : List Nat} {key : Value} (hk : flatT P 10000 kt = some ks) (hst : ∃ fs, P.underlying kt = some (.struct fs)) (hf : Formed P kt key) : ∀ {ents : List MapEntry} {es : List (Value × AV)} {i : Nat} {r : Option (Nat × AV)},
    ents.map (·.key) = es.map (·.1) → DenL k (es.map (·.2)) (ents.map (·.val)) → (∀ e ∈ es, Formed P kt e.1) → findV ks key.cells.toList es i = some r →
    match r with
    | some (j, x) => ∃ v, (Instr.findAsking kt key ents i).run P w = .ok (some (j, v)) w ∧ Den k x v ∧ i ≤ j ∧ j - i < es.length
    | none => (Instr.findAsking kt key ents i).run P w = .ok none w
  | [], [], i, r, _, _, _, h => by
    simp only [findV, Option.some.injEq] at h
    subst h
    rfl
  | [], _ :: _, _, _, h, _, _, _ => by simp at h
  | _ :: _, [], _, _, h, _, _, _ => by simp at h
  | e :: ents, (q, x) :: es, i, r, h1, h2, h3, h => by
    simp only [List.map_cons, List.cons.injEq, DenL] at h1 h2
    obtain ⟨hq, h1⟩ := h1
    subst hq
    simp only [findV] at h
    split at h
    · rename_i hb
      simp only [Option.some.injEq] at h
      subst h
      have heq : (Op.equal kt key e.key).run P w = .ok true w := equalIn_flat (P := P) (w := w) 10000 kt ks key e.key true hk hf (h3 (e.key, x) (by simp)) hb
      exact ⟨e.val, by simp [Instr.findAsking, heq], h2.1, Nat.le_refl _, by simp⟩
    · rename_i hb
      have heq : (Op.equal kt key e.key).run P w = .ok false w := equalIn_flat (P := P) (w := w) 10000 kt ks key e.key false hk hf (h3 (e.key, x) (by simp)) hb
      have := find_ok (ents := ents) (es := es) (i := i + 1) (r := r) hk hst hf h1 h2.2 (fun e he => h3 e (by simp [he])) h
      split at this
      · obtain ⟨v, hr, hd, hle, hlt⟩ := this
        exact ⟨v, by simp [Instr.findAsking, heq, hr], hd, by omega, by simp; omega⟩
      · simp [Instr.findAsking, heq, this]
    · cases h

theorem valsOf_den {k : KW} : ∀ {xs : List AV} {vs ys : List Value}, valsOf xs = some vs → DenL k xs ys → ys = vs
  | [], vs, ys, h, hd => by
    simp only [valsOf, Option.some.injEq] at h
    subst h
    cases ys with
    | nil => rfl
    | cons _ _ => simp [DenL] at hd
  | x :: xs, vs, ys, h, hd => by
    cases x with
    | vl v =>
      simp only [valsOf] at h
      split at h
      · rename_i vs' hvs
        simp only [Option.some.injEq] at h
        subst h
        cases ys with
        | nil => simp [DenL] at hd
        | cons y ys =>
          simp only [DenL, Den] at hd
          rw [hd.1, valsOf_den hvs hd.2]
      · cases h
    | _ => simp [valsOf] at h

theorem toVal_den {k : KW} {x : AV} {v y : Value} (h : x.toVal = some v) (hd : Den k x y) : y = v := by
  cases x with
  | vl u =>
    simp only [AV.toVal, Option.some.injEq] at h
    subst h
    simpa [Den] using hd
  | agg cs =>
    simp only [AV.toVal] at h
    split at h
    · rename_i vs hvs
      simp only [Option.some.injEq] at h
      subst h
      simp only [Den] at hd
      obtain ⟨ys, rfl, hd⟩ := hd
      rw [← valsOf_den hvs hd]
    · cases h
  | _ => simp [AV.toVal] at h

theorem isAggV_formed {kt : TypeId} {v : Value} {fs : Array Field} (hst : P.underlying kt = some (.struct fs)) (h : Value.isAggV v = true) : Formed P kt v := by
  unfold Formed
  rw [hst]
  cases v <;> simp [Value.isAggV] at h
  exact ⟨_, rfl⟩

theorem mapKey_spec {kt : TypeId} {ks : List Nat} (h : mapKey P kt = some ks) : (∃ fs, P.underlying kt = some (.struct fs)) ∧ flatT P 10000 kt = some ks := by
  unfold mapKey at h
  split at h
  · rename_i fs hu
    exact ⟨⟨fs, hu⟩, h⟩
  · cases h

/-- Looking up a key, in the memory. -/
theorem run_find {k : KW} {kt : TypeId} {ks : List Nat} {kv : Value} {ents : List MapEntry} {es : List (Value × AV)} {r : Option (Nat × AV)} (hm : mapKey P kt = some ks) (ha : Value.isAggV kv = true)
    (hes : ∀ e ∈ es, Value.isAggV e.1 = true) (h1 : ents.map (·.key) = es.map (·.1)) (h2 : DenL k (es.map (·.2)) (ents.map (·.val))) (h : findV ks kv.cells.toList es 0 = some r) :
    match r with
    | some (j, x) => ∃ v, (Instr.findKey kt kv ents).run P w = .ok (some (j, v)) w ∧ Den k x v ∧ j < es.length
    | none => (Instr.findKey kt kv ents).run P w = .ok none w := by
  obtain ⟨⟨fs, hst⟩, hf⟩ := mapKey_spec hm
  have := find_ok (P := P) (w := w) (k := k) hf ⟨fs, hst⟩ (isAggV_formed hst ha) h1 h2 (fun e he => isAggV_formed hst (hes e he)) h
  have now : ents = [] ∨ Instr.findNow (.struct fs) kv ents 0 = none := by
    cases ents with
    | nil => exact .inl rfl
    | cons e es => exact .inr (by simp [Instr.findNow, Instr.sameNow])
  rcases now with rfl | hnow
  · have hr : r = none := by
      have hl := congrArg List.length h1
      simp at hl
      have : es = [] := List.eq_nil_of_length_eq_zero hl.symm
      subst this
      simpa [findV] using h.symm
    subst hr
    simp [Instr.findKey, run_underlying hst, Instr.findNow]
  · cases r with
    | none => simpa [Instr.findKey, run_underlying hst, hnow] using this
    | some jx =>
      obtain ⟨j, x⟩ := jx
      obtain ⟨v, h3, h4, _, h5⟩ := this
      exact ⟨v, by simpa [Instr.findKey, run_underlying hst, hnow] using h3, h4, by simpa using h5⟩
end

section
variable {P : Program} {k : KW} {a : Act} {o : Oper} {l : Nat} {K : AV → List Bx → Prop} {g : Operand → AV} {σ : Nat → Option Bx} {c : Bool}

theorem q_lkp1 {t kt e : TypeId} {ks : List Nat} {z : Value} {ok : Bool} {m key : Operand} {b : Nat} {ents : Array MapEntry} {clock : Nat} {es : List (Value × AV)} (ho : o.op = .lookup t m key ok) (hu : P.underlying t = some (.map kt e)) (hm : mapKey P kt = some ks) (hz : (P.info? e).bind (·.zero) = some z)
    (hg : ∀ x, Den k (g x) (a.eval x)) (hx : a.eval m = .map (some b)) (hheap : k.w.heap[b]? = some (.map ents clock)) (hkeys : ents.toList.map (·.key) = es.map (·.1)) (hvals : DenL k (es.map (·.2)) (ents.toList.map (·.val))) (hc : c = true)
    (h : strip c (g key) fun key => lkpE c ks ok z es key fun r => K r []) : QOK P k a o l K := by
      obtain ⟨kx, hkx, h⟩ := strip_ok hc (hg key) h
      unfold lkpE at h
      split at h
      · rename_i kv hkv
        obtain ⟨hcond, r, hr, hK⟩ := h
        obtain ⟨ha, hself, hes⟩ := hcond hc
        have hkey := toVal_den hkv hkx
        obtain ⟨⟨fs, hst⟩, hf⟩ := mapKey_spec hm
        obtain ⟨rr, hrr⟩ := Option.isSome_iff_exists.1 hself
        have hck : ∀ em, (Instr.checkKey em 10000 kt kv).run P k.w = .ok () k.w := fun em => checkKey_flat (P := P) (w := k.w) em 10000 0 kt ks kv rr hf (isAggV_formed hst ha) hrr
        have hget : (getObj b).run P k.w = .ok (.map ents clock) k.w := by simp [getObj, Sem.run, hheap]
        have hzv : (zeroValue e).run P k.w = .ok z k.w := by
          cases hi : P.info? e with
          | none => simp [hi] at hz
          | some i => simp [hi] at hz; simp [zeroValue, typeInfo, hi, hz]
        have hfind := run_find (P := P) (w := k.w) (k := k) hm ha hes hkeys hvals hr
        cases r with
        | none =>
          simp only at hfind
          refine .plain hK (v := if ok then .tuple #[z, .bool false] else z) ?_ ?_
          · simp [execOp, ho, Instr.lookup, run_underlying hu, hx, hget, hkey, hck, hfind, hzv]
          · unfold lkpR
            cases ok
            · simp [Den]
            · simp [Den, DenL]
        | some jx =>
          obtain ⟨j, x⟩ := jx
          obtain ⟨v, hfind, hd, _⟩ := hfind
          refine .plain hK (v := if ok then .tuple #[v, .bool true] else v) ?_ ?_
          · simp [execOp, ho, Instr.lookup, run_underlying hu, hx, hget, hkey, hck, hfind]
          · unfold lkpR
            cases ok
            · simpa using hd
            · simp [Den, DenL, hd]
      · exact h.elim
theorem denL_vl (k : KW) : ∀ es : List (Value × Value), DenL k ((es.map fun e => (e.1, AV.vl e.2)).map (·.2)) (es.map (·.2))
  | [] => by simp [DenL]
  | e :: es => by
    simp only [List.map_cons, DenL, Den]
    exact ⟨trivial, denL_vl k es⟩
theorem q_lkp {t kt e : TypeId} {ks : List Nat} {z : Value} {ok : Bool} {m key : Operand} (ho : o.op = .lookup t m key ok) (hu : P.underlying t = some (.map kt e)) (hm : mapKey P kt = some ks) (hz : (P.info? e).bind (·.zero) = some z)
    (hg : ∀ x, Den k (g x) (a.eval x)) (hσ : ∀ l x b, k.ρ l = some b → σ l = some x → BxOK k l x) (hc : c = true) (h : qv c (.lkp ks ok z m key) g σ l K) : QOK P k a o l K := by
  simp only [qv] at h
  obtain ⟨u, hu', h⟩ := strip_ok hc (hg m) h
  split at h
  · rename_i l'
    split at h
    · rename_i es hl'
      simp only [Den] at hu'
      obtain ⟨b, hb, hx⟩ := hu'
      have hbx := hσ _ _ _ hb hl'
      simp only [BxOK] at hbx
      obtain ⟨b', ents, clock, hb', _, hheap, _, _, hkeys, hvals⟩ := hbx
      rw [hb] at hb'
      simp only [Option.some.injEq] at hb'
      subst hb'
      exact q_lkp1 ho hu hm hz hg hx hheap hkeys hvals hc h
    · exact h.elim
  · rename_i es
    simp only [Den] at hu'
    obtain ⟨b, ents, clock, hx, _, _, hheap, hkeys, hvals⟩ := hu'
    exact q_lkp1 ho hu hm hz hg hx hheap (by rw [hkeys]; simp) (by rw [hvals]; exact denL_vl k es) hc h
  · exact h.elim
end
end Go.QL
