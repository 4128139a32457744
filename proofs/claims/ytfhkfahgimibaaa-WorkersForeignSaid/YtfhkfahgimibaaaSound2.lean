/- The literals. -/
import Derived.Test.YtfhkfahgimibaaaSound
namespace Go.QL

theorem splice_list : ∀ (vs : List Value) (j off : Nat) (cells : List Value), off + j + vs.length ≤ cells.length →
    ((vs.zipIdx j).foldl (fun (cs : Array Value) x => cs.setIfInBounds (off + x.2) x.1) cells.toArray).toList = cells.take (off + j) ++ vs ++ cells.drop (off + j + vs.length)
  | [], j, off, cells, h => by simp
  | v :: vs, j, off, cells, h => by
    simp only [List.zipIdx_cons, List.foldl_cons]
    have hlt : off + j < cells.length := by simp at h; omega
    have e : cells.toArray.setIfInBounds (off + j) v = (cells.set (off + j) v).toArray := by simp
    rw [e, splice_list vs (j + 1) off (cells.set (off + j) v) (by simp at h ⊢; omega)]
    have h1 : (cells.set (off + j) v).take (off + (j + 1)) = cells.take (off + j) ++ [v] := by
      apply List.ext_getElem?
      intro i
      simp only [List.getElem?_take, List.getElem?_set, List.getElem?_append, List.length_take]
      by_cases h1 : i < off + j
      · simp [h1, show i < off + (j + 1) from by omega, show ¬ off + j = i from by omega, show min (off + j) cells.length = off + j from by omega]
      · by_cases h2 : i = off + j
        · subst h2
          simp [hlt, show off + j < off + (j + 1) from by omega, show min (off + j) cells.length = off + j from by omega]
        · simp [show ¬ i < off + (j + 1) from by omega, show min (off + j) cells.length = off + j from by omega, h1]
          omega
    have h2 : (cells.set (off + j) v).drop (off + (j + 1) + vs.length) = cells.drop (off + j + (v :: vs).length) := by
      apply List.ext_getElem?
      intro i
      simp only [List.getElem?_drop, List.getElem?_set, List.length_cons]
      rw [if_neg (by omega)]
      congr 1
      omega
    rw [h1, h2]
    simp

theorem splice_arr (v cells : Array Value) (off : Nat) (h : off + v.size ≤ cells.size) :
    (v.zipIdx.foldl (fun (cs : Array Value) (x : Value × Nat) => cs.setIfInBounds (off + x.2) x.1) cells).toList = cells.toList.take off ++ v.toList ++ cells.toList.drop (off + v.size) := by
  have := splice_list v.toList 0 off cells.toList (by simpa using h)
  simp only [Nat.add_zero, Array.length_toList] at this
  rw [← this, ← Array.foldl_toList, Array.toList_zipIdx]

inductive F2 {α β : Type} (R : α → β → Prop) : List α → List β → Prop
  | nil : F2 R [] []
  | cons {x y l r} : R x y → F2 R l r → F2 R (x :: l) (y :: r)

section
variable {P : Program} {k : KW} {a : Act} {o : Oper} {l : Nat} {K : AV → List Bx → Prop} {g : Operand → AV} {σ : Nat → Option Bx} {c : Bool}

/-- The model's filling, and the evaluator's. -/
theorem fill_ok (hg : ∀ x, Den k (g x) (a.eval x)) (hc : c = true) {place : Nat → Option (Nat × Nat)} :
    ∀ (ps : List (Nat × Operand)) (qs : List (Nat × Nat × Operand)) (z : List AV) (cells : Array Value) (K : List AV → Prop),
      (F2 (fun (p : Nat × Operand) (q : Nat × Nat × Operand) => place p.1 = some (q.1, q.2.1) ∧ q.2.2 = p.2) ps qs) → DenL k z cells.toList → (∀ v ∈ cells.toList, v.oneCell' = true) →
      fillV g c z qs K → ∃ cs r, K cs ∧ Instr.fill place cells (ps.map fun p => (p.1, a.eval p.2)) = some r ∧ DenL k cs r.toList ∧ (∀ v ∈ r.toList, v.oneCell' = true) ∧ r.size = cells.size
  | [], [], z, cells, K, _, hd, h1, h => ⟨z, cells, h, rfl, hd, h1, rfl⟩
  | [], _ :: _, _, _, _, hp, _, _, _ => by cases hp
  | _ :: _, [], _, _, _, hp, _, _, _ => by cases hp
  | (i, x) :: ps, (off, n, y) :: qs, z, cells, K, hp, hd, h1, h => by
    cases hp with
    | cons hp hps =>
      obtain ⟨hp1, hp2⟩ : place i = some (off, n) ∧ y = x := hp
      subst hp2
      simp only [fillV] at h
      obtain ⟨u, hu, h⟩ := strip_ok hc (hg y) h
      obtain ⟨h2, h3, h4⟩ := h.1 hc
      replace h := h.2
      obtain ⟨hd', h1'⟩ := cells_den hu h4
      have hlen := hd'.length
      have hlen' := hd.length
      have hs : (a.eval y).cells.size = n := by simpa [h2] using hlen.symm
      have hsz : off + n ≤ cells.size := by simpa [hlen'] using h3
      obtain ⟨cs, r, hK, hf, hdr, h1r, hrs⟩ := fill_ok hg hc ps qs _ ((a.eval y).cells.zipIdx.foldl (fun (cs : Array Value) (x : Value × Nat) => cs.setIfInBounds (off + x.2) x.1) cells) K hps (by
          rw [splice_arr _ _ _ (by omega), hs]
          exact DenL.append (DenL.append (DenL.take off hd) hd') (DenL.drop (off + n) hd)) (by
          rw [splice_arr _ _ _ (by omega)]
          intro v hv
          simp only [List.mem_append] at hv
          rcases hv with (hv | hv) | hv
          · exact h1 v (List.mem_of_mem_take hv)
          · exact h1' v hv
          · exact h1 v (List.mem_of_mem_drop hv)) h
      refine ⟨cs, r, hK, ?_, hdr, h1r, ?_⟩
      · simp only [List.map_cons, Instr.fill, hp1]
        rw [if_neg (by simp; omega)]
        exact hf
      · rw [hrs]
        have := congrArg List.length (splice_arr (a.eval y).cells cells off (by omega))
        simp at this
        simp
        omega

theorem f2_of_mapM {α β : Type} {f : α → Option β} : ∀ {l : List α} {r : List β}, l.mapM f = some r → F2 (fun x y => f x = some y) l r
  | [], r, h => by
    simp at h
    subst h
    exact .nil
  | x :: l, r, h => by
    simp only [List.mapM_cons, Option.bind_eq_bind, Option.bind_eq_some_iff] at h
    obtain ⟨y, hy, ys, hys, h⟩ := h
    have : y :: ys = r := by simpa using h
    subst this
    exact .cons hy (f2_of_mapM hys)

theorem f2_imp {α β : Type} {R S : α → β → Prop} (h : ∀ x y, R x y → S x y) : ∀ {l : List α} {r : List β}, F2 R l r → F2 S l r
  | _, _, .nil => .nil
  | _, _, .cons h1 h2 => .cons (h _ _ h1) (f2_imp h h2)

theorem f2_map {α β : Type} {f : α → β} {R : α → β → Prop} (h : ∀ x, R x (f x)) : ∀ (l : List α), F2 R l (l.map f)
  | [] => .nil
  | x :: l => .cons (h x) (f2_map h l)

theorem places_run (w : World) : ∀ (fs : List Field), (∀ f ∈ fs, ∃ n, szOf P f.type = some n) →
    (fs.mapM fun f => do pure (f.offset, ← sizeOf f.type) : Sem (List (Nat × Nat))).run P w = .ok (fs.map fun f => (f.offset, P.cellsOf f.type)) w
  | [], _ => by simp
  | f :: fs, h => by
    obtain ⟨n, hn⟩ := h f (by simp)
    have : P.cellsOf f.type = n := by
      unfold szOf at hn
      simp [Program.cellsOf, hn]
    have ih := places_run w fs fun f hf => h f (by simp [hf])
    simp only [List.mapM_cons, Sem.run_bind, szOf_spec hn, Result.andThen_ok, Sem.run_pure, ih, List.map_cons, this]

end

theorem flat_get (z : List Value) (n : Nat) (hn : z.length = n) (h0 : 0 < n) : ∀ (len i : Nat), i < len * n → ((List.replicate len z).flatten)[i]? = z[i % n]?
  | 0, i, h => by omega
  | len + 1, i, h => by
    rw [List.replicate_succ, List.flatten_cons, List.getElem?_append]
    by_cases hi : i < n
    · rw [if_pos (by omega), Nat.mod_eq_of_lt hi]
    · rw [if_neg (by omega), hn, flat_get z n hn h0 len (i - n) (by rw [Nat.add_mul] at h; omega)]
      congr 1
      rw [Nat.mod_eq_sub_mod (a := i) (by omega)]

theorem zrow (zc : Array Value) (len n : Nat) (hn : zc.size = n) (h0 : 0 < n) :
    ((Array.range (len * n)).map fun i => zc[i % zc.size]!).toList = (List.replicate len zc.toList).flatten := by
  apply List.ext_getElem?
  intro i
  by_cases hi : i < len * n
  · rw [flat_get zc.toList n (by simpa using hn) h0 len i hi]
    have hm : i % n < zc.size := by
      rw [hn]
      exact Nat.mod_lt _ h0
    subst hn
    simp [hi, hm]
  · have h1 : ((List.replicate len zc.toList).flatten).length = len * n := by simp [hn]
    rw [List.getElem?_eq_none (by simp; omega), List.getElem?_eq_none (by omega)]

section
variable {P : Program} {k : KW} {a : Act} {o : Oper} {l : Nat} {K : AV → List Bx → Prop} {g : Operand → AV} {σ : Nat → Option Bx} {c : Bool}

theorem q_build {t : TypeId} {ps : Array (Nat × Operand)} {z : List Value} {qs : List (Nat × Nat × Operand)} (ho : o.op = .build t ps) (hz : zeroOf P t = some z) (hp : partsOf P t ps.toList = some qs)
    (hfs : fieldsSized P t = true) (hg : ∀ x, Den k (g x) (a.eval x)) (hc : c = true) (h : qv c (.build z qs) g σ l K) : QOK P k a o l K := by
  simp only [qv] at h
  obtain ⟨zv, h1, h2, h3⟩ := zeroOf_spec hz k.w
  unfold partsOf at hp
  have fin : ∀ {place : Nat → Option (Nat × Nat)}, (F2 (fun (p : Nat × Operand) (q : Nat × Nat × Operand) => place p.1 = some (q.1, q.2.1) ∧ q.2.2 = p.2) ps.toList qs) →
      (∀ r, Instr.fill place zv.cells (ps.toList.map fun p => (p.1, a.eval p.2)) = some r → (execOp a.eval o).run P k.w = .ok (.value (.agg r)) k.w) → QOK P k a o l K := by
    intro place hF hr
    obtain ⟨cs, r, hK, hf, hd, _, _⟩ := fill_ok hg hc ps.toList qs _ zv.cells _ hF (by rw [h2]; exact DenL.vls z) (by rw [h2]; exact h3) h
    exact .plain hK (hr r hf) (by simp only [Den]; exact ⟨r, rfl, hd⟩)
  have hmap : (ps.map fun x => (x.1, a.eval x.2)).toList = ps.toList.map fun p => (p.1, a.eval p.2) := by simp
  split at hp
  · rename_i fs hu
    have hsz : ∀ f ∈ fs, ∃ n, szOf P f.type = some n := by
      intro f hf
      simp only [fieldsSized, hu, Array.all_eq_true_iff_forall_mem] at hfs
      have := hfs f hf
      unfold szOf
      cases hi : P.info? f.type with
      | none => simp [hi] at this
      | some i => exact ⟨_, rfl⟩
    have hplaces : (fs.mapM fun f => do pure (f.offset, ← sizeOf f.type) : Sem (Array (Nat × Nat))).run P k.w = .ok (fs.map fun f => (f.offset, P.cellsOf f.type)) k.w := by
      rw [Array.mapM_eq_mapM_toList, Sem.run_map, places_run k.w fs.toList fun f hf => hsz f (by simpa using hf)]
      simp only [Result.andThen_ok]
      rw [← Array.toList_map]
    refine fin (place := fun i => (fs.map fun f => (f.offset, P.cellsOf f.type))[i]?) (f2_imp ?_ (f2_of_mapM hp)) ?_
    · rintro ⟨i, x⟩ ⟨off, n, y⟩ he
      simp only at he
      split at he
      · rename_i f hf
        cases hn : szOf P f.type with
        | none => simp [hn] at he
        | some n' =>
          simp [hn] at he
          obtain ⟨rfl, rfl, rfl⟩ := he
          have : P.cellsOf f.type = n' := by
            unfold szOf at hn
            simp [Program.cellsOf, hn]
          simp [hf, this]
      · cases he
    · intro r hr
      rw [← hmap] at hr
      simp only [execOp, ho, Instr.build, Sem.run_bind, h1, Result.andThen_ok, run_underlying hu, hplaces]
      rw [hr]
      rfl
  · rename_i n e hu
    cases hn : szOf P e with
    | none => simp [hn] at hp
    | some sz =>
      simp [hn] at hp
      subst hp
      refine fin (place := fun i => some (i * sz, sz)) (f2_map (fun x => ⟨rfl, rfl⟩) _) ?_
      intro r hr
      rw [← hmap] at hr
      simp only [execOp, ho, Instr.build, Sem.run_bind, h1, Result.andThen_ok, run_underlying hu, szOf_spec hn]
      rw [hr]
      rfl
  · cases hp

theorem q_bsl {t e : TypeId} {ps : Array (Nat × Operand)} {z : List Value} {n len : Nat} (ho : o.op = .buildSlice t len ps) (ht : P.underlying t = some (.slice e)) (hn : szOf P e = some n) (hz : zeroOf P e = some z)
    (hnz : n = z.length) (hn0 : n ≠ 0) (hl0 : len ≠ 0) (hb : len * n ≤ 1024) (hg : ∀ x, Den k (g x) (a.eval x)) (hc : c = true)
    (h : qv c (.bsl n len ((List.replicate len z).flatten) (ps.toList.map fun (i, x) => (i * n, n, x))) g σ l K) : QOK P k a o l K := by
  simp only [qv] at h
  obtain ⟨zv, h1, h2, h3⟩ := zeroOf_spec hz k.w
  have hzs : zv.cells.size = n := by
    have := congrArg List.length h2
    simpa [hnz] using this
  have hrep : ((Array.range (len * n)).map fun i => zv.cells[i % zv.cells.size]!).toList = (List.replicate len z).flatten := by
    rw [zrow zv.cells len n hzs (by omega), h2]
  have hone : ∀ v ∈ (List.replicate len z).flatten, v.oneCell' = true := by
    intro v hv
    simp only [List.mem_flatten, List.mem_replicate] at hv
    obtain ⟨x, ⟨_, rfl⟩, hx⟩ := hv
    exact h3 v hx
  obtain ⟨cs, r, hK, hf, hd, h1r, hrs⟩ := fill_ok (place := fun i => some (i * n, n)) hg hc ps.toList _ _ ((Array.range (len * n)).map fun i => zv.cells[i % zv.cells.size]!) _
    (f2_map (f := fun x : Nat × Operand => (x.1 * n, n, x.2)) (fun x => ⟨rfl, rfl⟩) _) (by rw [hrep]; exact DenL.vls _) (by rw [hrep]; exact hone) h
  have hmap : (ps.map fun x => (x.1, a.eval x.2)).toList = ps.toList.map fun p => (p.1, a.eval p.2) := by simp
  rw [← hmap] at hf
  have hrsz : r.size = len * n := by simpa using hrs
  refine ⟨_, _, hK, .slice (some ⟨k.w.heap.size, 0, none⟩) len len, k.w.alloc (.cells r e (0, 0)), ?_, .inr ⟨_, r, e, rfl, rfl, h1r, hd, ?_⟩⟩
  · have h0 : ¬ (len * n > 2 ^ 24) := by omega
    have h00 : ¬ (len * n = 0) := by
      intro hh
      rcases Nat.mul_eq_zero.1 hh with hh | hh
      · exact hl0 hh
      · exact hn0 hh
    simp only [execOp, ho, Instr.buildSlice, Sem.run_bind, run_underlying ht, Result.andThen_ok, szOf_spec hn, if_neg h0, if_neg h00, h1, Sem.run_pure, bind_pure_comp, Sem.run_map]
    rw [hf]
    rfl
  · intro k' hk hl
    simp only [Den]
    refine ⟨_, len, rfl, Nat.le_refl _, Nat.le_refl _, ?_, .inr ⟨_, r, e, hl, rfl, ?_, by omega⟩⟩
    · have : len ≤ len * n := Nat.le_mul_of_pos_right _ (by omega)
      unfold maxLen
      omega
    · rw [hk]
      show (k.w.heap.push _)[k.w.heap.size]? = _
      simp

theorem made_row (z : Array Value) (n : Nat) : (madeCells z (n * z.size)).toList = (List.replicate n z.toList).flatten := by
  apply List.ext_getElem?
  intro j
  by_cases hz : z.size = 0
  · have : z.toList = [] := List.eq_nil_of_length_eq_zero (by simpa using hz)
    simp [madeCells, hz, this]
  · have key : ∀ n j, ((List.replicate n z.toList).flatten)[j]? = if j < n * z.size then some (z[j % z.size]!) else none := by
      intro n
      induction n with
      | zero => intro j; simp
      | succ n ih =>
        intro j
        rw [List.replicate_succ, List.flatten_cons, List.getElem?_append]
        simp only [Array.length_toList]
        split
        · rename_i hlt
          rw [if_pos (by rw [Nat.add_mul]; omega), Nat.mod_eq_of_lt hlt]
          simp [hlt]
        · rename_i hge
          rw [ih]
          have e : (j - z.size) % z.size = j % z.size := (Nat.mod_eq_sub_mod (by omega)).symm
          rw [e]
          by_cases h2 : j - z.size < n * z.size
          · rw [if_pos h2, if_pos (by rw [Nat.add_mul]; omega)]
          · rw [if_neg h2, if_neg (by rw [Nat.add_mul]; omega)]
    rw [key]
    simp only [madeCells, Array.toList_map, Array.toList_range, List.getElem?_map, List.getElem?_range']
    by_cases hj : j < n * z.size
    · rw [if_pos hj]
      simp [List.getElem?_range hj]
    · rw [if_neg hj]
      simp [List.getElem?_eq_none (show (List.range (n * z.size)).length ≤ j by simpa using hj)]

theorem DenL.zcellsOf {k : KW} (z : List Value) : ∀ n, DenL k (zcells z n) (List.replicate n z).flatten
  | 0 => by simp [zcells, DenL]
  | n + 1 => by
    simp only [zcells, List.replicate_succ, List.flatten_cons]
    exact DenL.append (DenL.vls z) (DenL.zcellsOf z n)

theorem q_mks {t e : TypeId} {i : TypeInfo} {z : List Value} {x y : Operand} (ho : o.op = .makeSlice t x y) (hu : P.underlying t = some (.slice e)) (hi : P.info? e = some i) (hz : zeroOf P e = some z) (hzl : z.length = i.size) (h0 : i.size ≠ 0)
    (hg : ∀ x, Den k (g x) (a.eval x)) (hc : c = true) (h : qv c (.mks i.size i.bytes z x y) g σ l K) : QOK P k a o l K := by
  simp only [qv] at h
  obtain ⟨u, hu', h⟩ := strip_ok hc (hg x) h
  obtain ⟨v, hv', h⟩ := strip_ok hc (hg y) h
  split at h
  · rename_i kl p kc q _
    obtain ⟨hb, hK⟩ := h
    obtain ⟨b1, b2, b3, b4⟩ := hb hc
    simp only [Den] at hu' hv'
    have hz' := hz
    unfold zeroOf at hz'
    rw [hi] at hz'
    simp only [] at hz'
    split at hz'
    · rename_i zv hz0
      split at hz'
      · rename_i hall
        simp only [Option.some.injEq] at hz'
        subst hz'
        have hzs : zv.cells.size = i.size := by simpa using hzl
        have hr := run_make (P := P) k.w t e i zv hu hi hz0 kl kc p q b1 b2 b3 b4
        rw [← hzs] at hr
        have hrow := made_row zv.cells q.toNat
        refine ⟨_, _, hK, .slice (some ⟨k.w.heap.size, 0, none⟩) p.toNat q.toNat, k.w.alloc (.cells (madeCells zv.cells (q.toNat * zv.cells.size)) e), ?_, .inr ⟨_, _, _, rfl, rfl, ?_, ?_, ?_⟩⟩
        · simp [execOp, ho, hu', hv', hr]
        · intro v hv
          rw [hrow] at hv
          simp only [List.mem_flatten, List.mem_replicate] at hv
          obtain ⟨l', ⟨_, rfl⟩, hv⟩ := hv
          rw [Array.all_eq_true_iff_forall_mem] at hall
          exact hall v (by simpa using hv)
        · rw [hrow]
          exact DenL.zcellsOf _ _
        · intro k' hk hl
          simp only [Den]
          refine ⟨_, q.toNat, rfl, Nat.le_refl _, by omega, by simp only [maxLen]; omega, .inr ⟨_, madeCells zv.cells (q.toNat * zv.cells.size), e, hl, rfl, ?_, ?_⟩⟩
          · rw [hk]
            show (k.w.heap.push _)[k.w.heap.size]? = _
            simp
          · simp [madeCells, hzs]
      · cases hz'
    · cases hz'
  · exact h.elim

theorem slcB_ok {lo : Option Operand} {d : Int} {K : Int → Prop} (hg : ∀ x, Den k (g x) (a.eval x)) (hc : c = true) (h : slcB g c lo d K) :
    ∃ i, K i ∧ ((lo = none ∧ i = d) ∨ ∃ x kd, lo = some x ∧ a.eval x = .int kd i) := by
  unfold slcB at h
  split at h
  · exact ⟨_, h, .inl ⟨rfl, rfl⟩⟩
  · rename_i x
    obtain ⟨u, hu, h⟩ := strip_ok hc (hg x) h
    split at h
    · simp only [Den] at hu
      exact ⟨_, h, .inr ⟨x, _, rfl, hu⟩⟩
    · exact h.elim

theorem bounds_run {w : World} {lo hi mx : Option Operand} {len cap : Nat} {x y z : Int} (hm : mx.isSome = true → hi.isSome = true)
    (h1 : (lo = none ∧ x = 0) ∨ ∃ o kd, lo = some o ∧ a.eval o = .int kd x) (h2 : (hi = none ∧ y = (len : Int)) ∨ ∃ o kd, hi = some o ∧ a.eval o = .int kd y)
    (h3 : (mx = none ∧ z = (len : Int)) ∨ ∃ o kd, mx = some o ∧ a.eval o = .int kd z) (b0 : 0 ≤ x) (b1 : x ≤ y) (b2 : y ≤ z) (b3 : z ≤ len) (b4 : len ≤ cap) :
    ∃ m : Nat, y.toNat ≤ m ∧ m ≤ cap ∧ (Instr.sliceBounds true len cap (lo.map a.eval) (hi.map a.eval) (mx.map a.eval)).run P w = .ok (x.toNat, y.toNat, m) w := by
  have y0 : 0 ≤ y := by omega
  have z0 : 0 ≤ z := by omega
  have yt : ((y.toNat : Nat) : Int) = y := Int.toNat_of_nonneg y0
  have zt : ((z.toNat : Nat) : Int) = z := Int.toNat_of_nonneg z0
  rcases h3 with ⟨rfl, rfl⟩ | ⟨oz, kz, rfl, hz⟩
  · refine ⟨cap, by omega, Nat.le_refl _, ?_⟩
    have c1 : y ≤ (cap : Int) := by omega
    rcases h2 with ⟨rfl, rfl⟩ | ⟨oy, ky, rfl, hy⟩
    · rcases h1 with ⟨rfl, rfl⟩ | ⟨ox, kx, rfl, hx⟩
      · simp [Instr.sliceBounds]
      · simp [Instr.sliceBounds, hx, run_sliceBound, b0, b1]
    · rcases h1 with ⟨rfl, rfl⟩ | ⟨ox, kx, rfl, hx⟩
      · simp [Instr.sliceBounds, hy, run_sliceBound, y0, c1]
      · have c2 : x ≤ ((y.toNat : Nat) : Int) := by omega
        simp [Instr.sliceBounds, hx, hy, run_sliceBound, b0, y0, c1, run_sliceBound w kx x y.toNat _ b0 c2]
  · refine ⟨z.toNat, by omega, by omega, ?_⟩
    have c0 : z ≤ (cap : Int) := by omega
    have c1 : y ≤ ((z.toNat : Nat) : Int) := by omega
    rcases h2 with ⟨rfl, rfl⟩ | ⟨oy, ky, rfl, hy⟩
    · simp at hm
    · rcases h1 with ⟨rfl, rfl⟩ | ⟨ox, kx, rfl, hx⟩
      · simp [Instr.sliceBounds, hy, hz, run_sliceBound w kz z cap _ z0 c0, run_sliceBound w ky y z.toNat _ y0 c1]
      · have c2 : x ≤ ((y.toNat : Nat) : Int) := by omega
        simp [Instr.sliceBounds, hx, hy, hz, run_sliceBound w kz z cap _ z0 c0, run_sliceBound w ky y z.toNat _ y0 c1, run_sliceBound w kx x y.toNat _ b0 c2]

theorem q_slc {t e : TypeId} {n : Nat} {x : Operand} {lo hi mx : Option Operand} (ho : o.op = .slice t x lo hi mx) (hu : P.underlying t = some (.slice e)) (hn : szOf P e = some n) (hm : mx.isSome = true → hi.isSome = true)
    (hg : ∀ x, Den k (g x) (a.eval x)) (hc : c = true) (h : qv c (.slc n x lo hi mx) g σ l K) : QOK P k a o l K := by
  have run : ∀ {ad : Option Addr} {len cap : Nat} {p q : Nat} {m : Nat}, a.eval x = .slice ad len cap →
      (Instr.sliceBounds true len cap (lo.map a.eval) (hi.map a.eval) (mx.map a.eval)).run P k.w = .ok (p, q, m) k.w →
      (execOp a.eval o).run P k.w = .ok (.value (.slice (if m = p then ad else ad.map (·.add (p * n))) (q - p) (m - p))) k.w := by
    intro ad len cap p q m hx hb
    simp [execOp, ho, Instr.sliceAt, Instr.slice, run_underlying hu, hx, hb, szOf_spec hn]
  simp only [qv] at h
  obtain ⟨u, hu', h⟩ := strip_ok hc (hg x) h
  have slc : ∀ es : List (List AV), Den k (.sl es) (a.eval x) → (slcB g c lo 0 fun a => slcB g c hi es.length fun b => slcB g c mx es.length fun m =>
        (c = true → (∀ e ∈ es, e.length = n) ∧ 0 ≤ a ∧ a ≤ b ∧ b ≤ m ∧ m ≤ es.length) ∧ K (.sl ((es.take b.toNat).drop a.toNat)) []) → QOK P k a o l K := by
    intro es hd h
    obtain ⟨p, h, h1⟩ := slcB_ok hg hc h
    obtain ⟨q, h, h2⟩ := slcB_ok hg hc h
    obtain ⟨r, h, h3⟩ := slcB_ok hg hc h
    obtain ⟨hb, hK⟩ := h
    obtain ⟨hes, b0, b1, b2, b3⟩ := hb hc
    simp only [Den] at hd
    obtain ⟨ad, cap, hx, d1, d2, d3⟩ := hd
    obtain ⟨m, hm1, hm2, hrun⟩ := bounds_run (P := P) (w := k.w) (cap := cap) hm h1 h2 h3 b0 b1 b2 b3 d1
    refine .plain hK (run hx hrun) ?_
    have hlen : ((es.take q.toNat).drop p.toNat).length = q.toNat - p.toNat := by
      simp
      omega
    simp only [Den]
    refine ⟨_, _, by rw [hlen], by rw [hlen]; omega, by omega, ?_⟩
    rcases d3 with rfl | ⟨b, off, sz, rfl, hbs, hM, hE⟩
    · left
      simp
    · by_cases hz : q.toNat - p.toNat = 0
      · left
        exact List.eq_nil_of_length_eq_zero (by rw [hlen]; exact hz)
      · right
        have hne : es ≠ [] := by
          intro e0
          subst e0
          simp at b3
          omega
        have hsz : sz = n := by
          obtain ⟨e, r', rfl⟩ := List.exists_cons_of_ne_nil hne
          simp only [DenEs] at hE
          rw [← hE.1, hes e (by simp)]
        subst hsz
        refine ⟨b, off + p.toNat * sz, sz, ?_, hbs, hM, DenEs.of_get fun i e he => ?_⟩
        · rw [if_neg (by omega)]
          simp [Addr.add_lit]
        · rw [List.getElem?_drop, List.getElem?_take] at he
          split at he
          · have := DenEs.get hE he
            rwa [show off + (p.toNat + i) * sz = off + p.toNat * sz + i * sz by rw [Nat.add_mul]; omega] at this
          · cases he
  split at h
  · rename_i sz' l' off len cap
    obtain ⟨p, h, h1⟩ := slcB_ok hg hc h
    obtain ⟨q, h, h2⟩ := slcB_ok hg hc h
    obtain ⟨r, h, h3⟩ := slcB_ok hg hc h
    obtain ⟨hb, hK⟩ := h
    obtain ⟨rfl, b0, b1, b2, b3⟩ := hb hc
    simp only [Den] at hu'
    obtain ⟨ad, cp, hx, d1, d2, d3, d4⟩ := hu'
    obtain ⟨m, hm1, hm2, hrun⟩ := bounds_run (P := P) (w := k.w) (cap := cp) hm h1 h2 h3 b0 b1 b2 b3 d2
    refine .plain hK (run hx hrun) ?_
    have e1 : (q - p).toNat = q.toNat - p.toNat := by omega
    simp only [Den]
    refine ⟨_, m - p.toNat, by rw [e1], by omega, by omega, by omega, ?_⟩
    rcases d4 with d4 | ⟨b, vs, T, d5, rfl, d6, d7⟩
    · left
      omega
    · by_cases hz : m - p.toNat = 0
      · exact .inl hz
      · right
        refine ⟨b, vs, T, d5, ?_, d6, ?_⟩
        · rw [if_neg (by omega)]
          simp [Addr.add_lit]
        · have : p.toNat * sz' + (m - p.toNat) * sz' ≤ cp * sz' := by
            rw [← Nat.add_mul]
            exact Nat.mul_le_mul_right _ (by omega)
          omega
  · split at h
    · rename_i es hes
      unfold asSl at hes
      split at hes
      · cases hes
        exact slc _ hu' h
      · cases hes
        simp only [Den] at hu'
        refine slc [] ?_ h
        simp only [Den]
        exact ⟨none, 0, hu', Nat.le_refl _, Nat.zero_le _, .inl trivial⟩
      · cases hes
    · exact h.elim
end
end Go.QL
