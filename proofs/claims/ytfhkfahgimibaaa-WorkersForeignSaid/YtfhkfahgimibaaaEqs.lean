/- Equality of flat structs. -/
import Derived.Test.YtfhkfahgimibaaaSound2
import Derived.Laws.StructEq
namespace Go.QL

theorem eqVs_cons {k : Nat} {ks : List Nat} {vs us : List Value} {r : Bool} (h : eqVs (k :: ks) vs us = some r) : ∃ v vs' u us' a b, vs = v :: vs' ∧ us = u :: us' ∧ sameB k v u = some a ∧ eqVs ks vs' us' = some b ∧ r = (a && b) := by
  match vs, us with
  | [], [] => simp [eqVs] at h
  | [], _ :: _ => simp [eqVs] at h
  | _ :: _, [] => simp [eqVs] at h
  | v :: vs, u :: us =>
    simp only [eqVs] at h
    split at h
    · rename_i a b ha hb
      simp only [Option.some.injEq] at h
      exact ⟨v, vs, u, us, a, b, rfl, rfl, ha, hb, h.symm⟩
    · cases h

theorem eqVs_app : ∀ {ks ls : List Nat} {vs us : List Value} {r : Bool}, eqVs (ks ++ ls) vs us = some r →
    ∃ r1 r2, eqVs ks (vs.take ks.length) (us.take ks.length) = some r1 ∧ eqVs ls (vs.drop ks.length) (us.drop ks.length) = some r2 ∧ r = (r1 && r2)
  | [], ls, vs, us, r, h => ⟨true, r, by simp [eqVs], by simpa using h, by simp⟩
  | k :: ks, ls, vs, us, r, h => by
    obtain ⟨v, vs', u, us', a, b, rfl, rfl, ha, hb, rfl⟩ := eqVs_cons h
    obtain ⟨r1, r2, h1, h2, rfl⟩ := eqVs_app hb
    exact ⟨a && r1, r2, by simp [eqVs, ha, h1], by simpa using h2, by rw [Bool.and_assoc]⟩

theorem eqVs_len : ∀ {ks : List Nat} {vs us : List Value} {r : Bool}, eqVs ks vs us = some r → vs.length = ks.length ∧ us.length = ks.length
  | [], [], [], _, _ => ⟨rfl, rfl⟩
  | [], [], _ :: _, _, h => by simp [eqVs] at h
  | [], _ :: _, _, _, h => by simp [eqVs] at h
  | k :: ks, vs, us, r, h => by
    obtain ⟨v, vs', u, us', a, b, rfl, rfl, ha, hb, rfl⟩ := eqVs_cons h
    have := eqVs_len hb
    simp [this]

theorem sameB_cell {k : Nat} {v u : Value} {r : Bool} (h : sameB k v u = some r) : v.cells = #[v] ∧ u.cells = #[u] := by
  unfold sameB at h
  split at h <;> first
    | exact ⟨rfl, rfl⟩
    | cases h

section
variable {P : Program} {w : World}

theorem isStr_run {t : TypeId} {d : TypeDesc} (hu : P.underlying t = some d) : (isAgg t).run P w = .ok (isRowTy d) w := by
  cases d <;> simp [isAgg, run_underlying hu, isRowTy]

def Formed (P : Program) (t : TypeId) (x : Value) : Prop := match P.underlying t with
  | some (.struct _) => ∃ xs, x = .agg xs
  | _ => x.cells = #[x]

theorem eqFields_ok {d : Nat} (IH : ∀ (t : TypeId) (ks : List Nat) (x y : Value) (r : Bool), flatT P d t = some ks → Formed P t x → Formed P t y → eqVs ks x.cells.toList y.cells.toList = some r → (Op.equalIn d t x y).run P w = .ok r w) {xs ys : Array Value} :
    ∀ (fs : List Field) (off : Nat) (ks : List Nat) (r : Bool), flatF (flatT P d) (szOf P) fs off = some ks → eqVs ks (xs.toList.drop off) (ys.toList.drop off) = some r → (Op.eqFields d xs ys fs).run P w = .ok r w
  | [], off, ks, r, h, he => by
    simp only [flatF, Option.some.injEq] at h
    subst h
    have := eqVs_len he
    have e1 : xs.toList.drop off = [] := List.eq_nil_of_length_eq_zero this.1
    have e2 : ys.toList.drop off = [] := List.eq_nil_of_length_eq_zero this.2
    rw [e1, e2] at he
    simp only [eqVs, Option.some.injEq] at he
    subst he
    rfl
  | f :: fs, off, ks0, r, h, he => by
    simp only [flatF] at h
    split at h
    · rename_i ks m hF hZ
      split at h
      · rename_i hc
        obtain ⟨hn, ho, rfl⟩ := hc
        simp only [Option.map_eq_some_iff] at h
        obtain ⟨ls, hls, rfl⟩ := h
        obtain ⟨r1, r2, e1, e2, rfl⟩ := eqVs_app he
        rw [List.drop_drop, List.drop_drop] at e2
        have rest := eqFields_ok IH fs (off + ks.length) ls r2 hls e2
        have len := eqVs_len e1
        have pt : ∀ zs : Array Value, ((zs.toList.drop off).take ks.length).length = ks.length → (∀ k, ks = [k] → ∀ z, (zs.toList.drop off).take ks.length = [z] → z.cells = #[z]) →
            ∃ z, (part f.type zs f.offset).run P w = .ok z w ∧ Formed P f.type z ∧ z.cells.toList = (zs.toList.drop off).take ks.length := by
          intro zs hz hone
          have hF' := hF
          unfold flatT at hF'
          split at hF'
          · cases hF'
          · rename_i d'
            have scal : ∀ (dd : TypeDesc) (k : Nat), P.underlying f.type = some dd → isRowTy dd = false → ks = [k] → (match P.underlying f.type with | some (.struct _) => False | _ => True) →
                ∃ z, (part f.type zs f.offset).run P w = .ok z w ∧ Formed P f.type z ∧ z.cells.toList = (zs.toList.drop off).take ks.length := by
              intro dd k hu hr hm hns
              subst hm
              have hlt : off < zs.size := by
                simp at hz
                omega
              have htk : (zs.toList.drop off).take [k].length = [zs[off]] := by
                rw [List.drop_eq_getElem_cons (by simpa using hlt)]
                simp
              have hcell := hone k rfl _ htk
              refine ⟨zs[off], ?_, ?_, ?_⟩
              · rw [ho]
                simp [part, isStr_run hu, hr, hlt]
              · unfold Formed
                split
                · rename_i fs' hst
                  rw [hst] at hns
                  exact hns.elim
                · exact hcell
              · rw [hcell, htk]
            split at hF'
            · rename_i kk hu
              exact scal _ 0 hu rfl (by simpa using hF'.symm) (by rw [hu]; trivial)
            · rename_i hu
              exact scal _ 1 hu rfl (by simpa using hF'.symm) (by rw [hu]; trivial)
            · rename_i hu
              exact scal _ 2 hu rfl (by simpa using hF'.symm) (by rw [hu]; trivial)
            · rename_i fs' hu
              refine ⟨.agg (zs.extract off (off + ks.length)), ?_, ?_, ?_⟩
              · rw [ho]
                simp [part, isStr_run hu, isRowTy, szOf_spec hZ]
              · unfold Formed
                rw [hu]
                exact ⟨_, rfl⟩
              · simp [Value.cells, List.extract_eq_take_drop]
            · cases hF'
        have one : ∀ k, ks = [k] → ∀ z1 z2, (xs.toList.drop off).take ks.length = [z1] → (ys.toList.drop off).take ks.length = [z2] → z1.cells = #[z1] ∧ z2.cells = #[z2] := by
          intro k hk z1 z2 h1 h2
          rw [h1, h2, hk] at e1
          obtain ⟨v, vs', u, us', a, b, hv, hu, ha, _⟩ := eqVs_cons e1
          cases hv
          cases hu
          exact sameB_cell ha
        have sing : ∀ (zs : Array Value), ((zs.toList.drop off).take ks.length).length = ks.length → ∀ k, ks = [k] → ∃ z, (zs.toList.drop off).take ks.length = [z] := by
          intro zs hz k hk
          rw [hk] at hz ⊢
          match hl : (zs.toList.drop off).take [k].length, hz with
          | [z], _ => exact ⟨z, rfl⟩
          | [], hz => simp at hz
          | _ :: _ :: _, hz => simp at hz
        obtain ⟨x, px, fx, cx⟩ := pt xs len.1 fun k hk z hz => by
          obtain ⟨z2, hz2⟩ := sing ys len.2 k hk
          exact (one k hk z z2 hz hz2).1
        obtain ⟨y, py, fy, cy⟩ := pt ys len.2 fun k hk z hz => by
          obtain ⟨z2, hz2⟩ := sing xs len.1 k hk
          exact (one k hk z2 z hz2 hz).2
        have := IH f.type ks x y r1 hF fx fy (by rw [cx, cy]; exact e1)
        simp only [Op.eqFields, if_pos hn, Sem.run_bind, px, py, this, Result.andThen_ok]
        cases r1 with
        | false => simp
        | true => simpa using rest
      · cases h
    · cases h

theorem equalIn_flat : ∀ (d : Nat) (t : TypeId) (ks : List Nat) (x y : Value) (r : Bool), flatT P d t = some ks → Formed P t x → Formed P t y → eqVs ks x.cells.toList y.cells.toList = some r → (Op.equalIn d t x y).run P w = .ok r w := by
  intro d
  induction d with
  | zero => intro t n x y r h; simp [flatT] at h
  | succ d ih =>
    intro t ks x y r h hx hy he
    unfold flatT at h
    have scal : ∀ (dd : TypeDesc) (k : Nat), P.underlying t = some dd → ks = [k] → (match P.underlying t with | some (.struct _) => False | _ => True) → sameB k x y = some r := by
      intro dd k hu hk hns
      have cx : x.cells = #[x] := by
        unfold Formed at hx
        split at hx
        · rename_i fs' hst
          rw [hst] at hns
          exact hns.elim
        · exact hx
      have cy : y.cells = #[y] := by
        unfold Formed at hy
        split at hy
        · rename_i fs' hst
          rw [hst] at hns
          exact hns.elim
        · exact hy
      rw [cx, cy, hk] at he
      obtain ⟨v, vs', u, us', a, b, hv, hu, ha, hb, rfl⟩ := eqVs_cons he
      cases hv
      cases hu
      simp only [eqVs, Option.some.injEq] at hb
      subst hb
      simpa using ha
    split at h
    · rename_i kk hu
      have := scal _ 0 hu (by simpa using h.symm) (by rw [hu]; trivial)
      unfold sameB at this
      split at this
      · split at this
        · rename_i hk
          subst hk
          cases this
          exact run_equalIn_int w d t _ _ _ _ hu
        · cases this
      all_goals first | omega | cases this
    · rename_i hu
      have := scal _ 1 hu (by simpa using h.symm) (by rw [hu]; trivial)
      unfold sameB at this
      split at this
      · omega
      · cases this
        exact run_equalIn_bool' w d t _ _ hu
      · omega
      · cases this
    · rename_i hu
      have := scal _ 2 hu (by simpa using h.symm) (by rw [hu]; trivial)
      unfold sameB at this
      split at this
      · omega
      · omega
      · cases this
        exact run_equalIn_string w d t _ _ hu
      · cases this
    · rename_i fs hu
      split at h
      · cases h
      · rename_i hp
        unfold Formed at hx hy
        rw [hu] at hx hy
        obtain ⟨xs, rfl⟩ := hx
        obtain ⟨ys, rfl⟩ := hy
        have hf : P.fieldsOf t = fs := by simp [Program.fieldsOf, hu]
        rw [run_equalIn_struct w d t xs ys (by rw [hf]; exact hu) (by simpa using hp), hf]
        exact eqFields_ok ih fs.toList 0 ks r h (by simpa [Value.cells] using he)
    · cases h

/-- What the evaluator compares is what the model compares. -/
theorem eqC_ok {k : KW} {c : Bool} (hc : c = true) : ∀ {ks : List Nat} {xs ys : List AV} {vs us : List Value} {K : Bool → Prop}, DenL k xs vs → DenL k ys us → eqC c ks xs ys K → ∃ r, K r ∧ eqVs ks vs us = some r
  | [], [], [], [], [], K, _, _, h => ⟨true, by simpa [eqC] using h, rfl⟩
  | [], [], [], [], _ :: _, K, _, h, _ => by simp [DenL] at h
  | [], [], [], _ :: _, _, K, h, _, _ => by simp [DenL] at h
  | [], [], _ :: _, _, _, K, _, _, h => by simp [eqC] at h
  | [], _ :: _, _, _, _, K, _, _, h => by simp [eqC] at h
  | q :: ks, [], _, _, _, K, _, _, h => by cases q <;> simp [eqC] at h
  | q :: ks, _ :: _, [], _, _, K, _, _, h => by cases q <;> simp [eqC] at h
  | q :: ks, x :: xs, y :: ys, [], us, K, h, _, _ => by simp [DenL] at h
  | q :: ks, x :: xs, y :: ys, _ :: _, [], K, _, h, _ => by simp [DenL] at h
  | q :: ks, x :: xs, y :: ys, v :: vs, u :: us, K, hx, hy, h => by
    simp only [DenL] at hx hy
    simp only [eqC] at h
    obtain ⟨x', hx', h⟩ := strip_ok hc hx.1 h
    obtain ⟨y', hy', h⟩ := strip_ok hc hy.1 h
    unfold eqS at h
    split at h
    · obtain ⟨hk, h⟩ := h
      simp only [Den] at hx' hy'
      subst hx' hy' hk
      obtain ⟨r, hr, he⟩ := eqC_ok hc hx.2 hy.2 h
      exact ⟨_, hr, by simp [eqVs, sameB, he]⟩
    · simp only [Den] at hx' hy'
      subst hx' hy'
      obtain ⟨r, hr, he⟩ := eqC_ok hc hx.2 hy.2 h
      exact ⟨_, hr, by simp [eqVs, sameB, he]⟩
    · simp only [Den] at hx' hy'
      subst hx' hy'
      obtain ⟨r, hr, he⟩ := eqC_ok hc hx.2 hy.2 h
      exact ⟨_, hr, by simp [eqVs, sameB, he]⟩
    · exact h.elim

theorem rowCells {k : KW} {x : AV} {v : Value} (h : Den k x v) (hr : x.isRow = true) : ∃ vs, v = .agg vs ∧ DenL k x.cells vs.toList := by
  unfold AV.isRow at hr
  split at hr
  · simp only [Den] at h
    obtain ⟨vs, rfl, hd⟩ := h
    exact ⟨vs, rfl, hd⟩
  · rename_i vs
    simp only [Den] at h
    subst h
    exact ⟨vs, rfl, by simpa [AV.cells] using DenL.vls vs.toList⟩
  · cases hr

theorem q_beqs {k : KW} {a : Act} {o : Oper} {l : Nat} {K : AV → List Bx → Prop} {g : Operand → AV} {σ : Nat → Option Bx} {c : Bool} {neg : Bool} {ks : List Nat} {t u : TypeId} {fs : Array Field} {x y : Operand}
    (ho : o.op = .binOp (if neg then .neq else .eql) t x y u) (hu : P.underlying t = some (.struct fs)) (hk : flatT P 10000 t = some ks) (hgd : P.eqGuardType P.depth t = false)
    (hg : ∀ x, Den k (g x) (a.eval x)) (hc : c = true) (h : qv c (.beqs neg ks x y) g σ l K) : QOK P k a o l K := by
  simp only [qv] at h
  obtain ⟨X, hX, h⟩ := strip_ok hc (hg x) h
  obtain ⟨Y, hY, h⟩ := strip_ok hc (hg y) h
  obtain ⟨hr, h⟩ := h
  obtain ⟨vs, hvs, dx⟩ := rowCells hX (hr hc).1
  obtain ⟨us, hus, dy⟩ := rowCells hY (hr hc).2
  obtain ⟨r, hK, he⟩ := eqC_ok hc dx dy h
  have hf : ∀ zs, Formed P t (.agg zs) := fun zs => by
    unfold Formed
    rw [hu]
    exact ⟨_, rfl⟩
  have heq := equalIn_flat (P := P) (w := k.w) 10000 t ks (.agg vs) (.agg us) r hk (hf _) (hf _) (by simpa [Value.cells] using he)
  refine .plain hK (v := .bool (if neg then !r else r)) ?_ (by simp [Den])
  cases neg
  · simp only [Bool.false_eq_true, if_false] at ho ⊢
    simp [execOp, ho, hvs, hus, run_eqGuard_agg, hgd, run_eql_struct, heq]
  · simp only [if_true] at ho ⊢
    simp [execOp, ho, hvs, hus, run_eqGuard_agg, hgd, run_neq_struct, heq]
end
end Go.QL
