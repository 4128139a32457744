/- From a contract to a row's post: the result is true, each argument reads as it did. -/
import Derived.Test.YtfhkfahgimibaaaArg
import Derived.ProofKit
namespace Go.QL
open Go.Proofs Go.Proofs.Try Go.ChangeShapes Go.WideShapes Go.ChangeAt Go.RowKit
theorem p_own : ownKnob prog.godebug = none := by kernel_rfl
theorem p_laid : laidOutB prog = true := by kernel_rfl
theorem below_of {w w' : World} (h : Fr w (fun _ => False) w') : Below w.heap.size w w' := ⟨h.os, h.tape, h.output, h.size, fun b hb => h.keep b hb id⟩
section
variable {H : Type} {enc : TypeId × Value → H} {W W' : World}
theorem trods_stay (hb : Below W.heap.size W W') : ∀ {ts : List TypeId} {vs : List Value} {ds : List (DataW H)} {p : List MemPlace}, (∀ t ∈ ts, prog.readableRec t = true ∧ t < prog.types.size) → (∀ x ∈ p, x.block < W.heap.size) →
    DataW.TrodAll enc prog W 0 (fun _ => true) true ts vs ds p → DataW.TrodAll enc prog W' 0 (fun b => decide (b < W.heap.size)) true ts vs ds p
  | [], [], [], _, _, _, h => h
  | t :: ts, v :: vs, d :: ds, _, hr, hp, ⟨p, q, h1, h2, e⟩ => by
    subst e
    exact ⟨p, q, Below.trod p_laid (hr t (by simp)).1 (hr t (by simp)).2 h1 hb fun x hx => hp x (by simp [hx]), trods_stay hb (fun t' ht' => hr t' (by simp [ht'])) (fun x hx => hp x (by simp [hx])) h2, rfl⟩
  | [], [], _ :: _, _, _, _, h => h.elim
  | [], _ :: _, _, _, _, _, h => h.elim
  | _ :: _, [], _, _, _, _, h => h.elim
  | _ :: _, _ :: _, [], _, _, _, h => h.elim
theorem law_post {args : Array Value} {ds gs : List (DataW H)} {before : List MemPlace} {f : Func} {s : ChangeSpec} (hr : f.resultTypes = #[4]) (hvars : s.vars = []) (hs : s.fn H (ds ++ gs) = { results := [.lit (.bool true)], args := ds })
    (hread : ∀ t ∈ f.params.toList, prog.readableRec t = true ∧ t < prog.types.size) (hW : DataW.Whole enc prog f.params.toList s.vars false W args.toList ds gs before) (hfr : Fr W (fun _ => False) W') :
    s.post enc prog f false true false false W args (.bool true) W' := by
  have hlt := hW.lt
  have hW' := hW
  obtain ⟨p, q, hA, hV, rfl, hfz, hnd⟩ := hW
  rw [hvars] at hV
  obtain ⟨rfl, rfl⟩ := trodVars_none hV
  refine ⟨ds, [], p ++ [], [], p, [], hW', ?_, ?_, ?_, Below.frame (below_of hfr) _, fun h => by cases h⟩
  · rw [hs, hr]
    exact trodAll_mk1 (shut_bool underlying4 _)
  · rw [hs]
    exact trods_stay (below_of hfr) hread (fun x hx => hlt x (by simp [hx])) hA
  · rw [hs, hvars]
    rfl
theorem law_calls {F : FuncId} {xs : List AV} {args : Array Value} (h : FP prog F xs (fun x => x = B true)) (hd : DenL (kw0 W) xs args.toList) (hl : lbs 0 xs) : Calls prog F args W fun e W' => e = .returned (.bool true) ∧ Fr W (fun _ => False) W' := by
  have := h W (fun _ => False) (fun _ => none) args.toList (fun _ hb => hb.elim) (fun ρ' _ => ⟨DenL.free hl hd, fun l x hx => by simp [look] at hx⟩) (fun l x hx => by simp [look] at hx) (fun l l' x x' b hx => by simp [look] at hx)
  rw [show args.toList.toArray = args from rfl] at this
  refine this.mono ?_
  rintro e w' ⟨v, ρ', r, σ', rfl, ⟨rfl, rfl⟩, _, _, _, hf, _, hd'⟩
  have hv := (hd' ρ' fun _ _ => rfl).1
  simp only [Den] at hv
  subst hv
  refine ⟨rfl, hf.mono ?_⟩
  rintro b ⟨l, x, h, _⟩
  simp [look] at h
set_option maxRecDepth 100000 in
theorem sl_cell {t e : TypeId} {w : World} {base : Nat} {v : Value} (ht : prog.underlying t = some (.slice e)) (h : Value.okWide prog w .any base t v) : v.cells.toList.length = 1 → v.cells.toList = [v] := by
  intro _
  cases v with
  | agg cs =>
    exfalso
    simp [Value.okWide, ht, Cell.okWide, Cell.ok] at h
  | _ => rfl
end
end Go.QL
