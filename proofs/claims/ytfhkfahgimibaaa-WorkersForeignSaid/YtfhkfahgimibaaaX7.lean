/- The law WorkersForeign returns true for every input, and each argument reads afterwards as it read before. No condition. -/
import Derived.Test.YtfhkfahgimibaaaRows
import Derived.Test.YtfhkfahgimibaaaL7
import Derived.Test.YtfhkfahgimibaaaLW
namespace Go.Proofs.Ytfhkfahgimibaaa.foreign
open Go.QL Go.Proofs.Try Go.ChangeShapes Go.WideShapes Go.ChangeAt Go.RowKit
set_option maxRecDepth 100000 in
theorem contract (H : Type) (enc : TypeId × Value → H) (W : World) (base : Nat) (args : Array Value) (ds gs : List (DataW H)) (before : List MemPlace)
    (hval : ∀ (j : Nat) t v, f7.params[j]? = some t → args[j]? = some v → Value.okWide prog W .any base t v)
    (hW : DataW.Whole enc prog f7.params.toList Rows.workersForeignSpec.vars false W args.toList ds gs before) :
    Calls prog 7 args W fun e W' => ∃ v, e = .returned v ∧ Rows.workersForeignSpec.post enc prog f7 false true false false W args v W' := by
  have hW' := hW
  obtain ⟨p, q, hA0, hV, rfl, hfz, hnd⟩ := hW
  have hA : DataW.TrodAll enc prog W 0 (fun _ => true) true f7.params.toList args.toList ds p := hA0
  rw [params7] at hA hval
  obtain ⟨v0, vs0, d0, ds0, p0, q0, e0, rfl, rfl, h0, r0⟩ := trodAll_cons hA
  obtain ⟨v1, vs1, d1, ds1, p1, q1, rfl, rfl, rfl, h1, r1⟩ := trodAll_cons r0
  obtain ⟨v2, vs2, d2, ds2, p2, q2, rfl, rfl, rfl, h2, r2⟩ := trodAll_cons r1
  obtain ⟨v3, vs3, d3, ds3, p3, q3, rfl, rfl, rfl, h3, r3⟩ := trodAll_cons r2
  obtain ⟨rfl, rfl, rfl⟩ := trodAll_nil r3
  obtain rfl : args = #[v0, v1, v2, v3] := by
    cases args
    simp_all
  obtain ⟨rfl, rfl⟩ := trodVars_none hV
  obtain ⟨ts, hts, htl⟩ := arg_tsks h0 (sl_cell underlying22 (hval 0 22 v0 rfl rfl))
  obtain ⟨ss, hss, hsl⟩ := arg_segs h1 (sl_cell underlying23 (hval 1 23 v1 rfl rfl))
  obtain ⟨a2, rfl, rfl, rfl, w2⟩ := open_int underlying5 (hval 2 5 v2 rfl rfl) h2
  have x2 : 0 ≤ a2 ∧ a2 ≤ 255 := by simpa [Lit.wf, IntKind.min, IntKind.max, IntKind.signed, IntKind.bits] using w2
  obtain ⟨a3, rfl, rfl, rfl, w3⟩ := open_int underlying29 (hval 3 29 v3 rfl rfl) h3
  have x3 : 0 ≤ a3 ∧ a3 ≤ 18446744073709551615 := by simpa [Lit.wf, IntKind.min, IntKind.max, IntKind.signed, IntKind.bits] using w3
  refine (law_calls (c7 ts ss a2 a3 htl hsl x2.1 x2.2 x3.1 (by omega)) ?_ ?_).mono fun e W' ⟨he, hf⟩ => ?_
  · simp only [DenL]
    exact ⟨hts, hss, by simp [Den], by simp [Den], trivial⟩
  · simp [lbs, lb, tsks_lb, segs_lb]
  subst he
  exact ⟨_, rfl, law_post (by kernel_rfl) rfl rfl (by rw [params7]; decide +kernel) hW' hf⟩
set_option maxRecDepth 100000 in
theorem lifted (os : Os) (started : os.Started) (H : Type) (enc : TypeId × Value → H) :
    ReturnsInHanded {} checked os 7 .any (Rows.workersForeignSpec.pre6 enc prog f7 Rows.workersForeignRow.domain false) (Rows.workersForeignSpec.post enc prog f7 false true false false) := by
  refine returnsInHanded_of_change (C := checked) p_own started (by kernel_rfl) func7
    (ChangeSpec.witness6 (enc := enc) (C := checked) false ⟨#[], #[.slice none 0 0, .slice none 0 0, .int .u8 0, .int .u64 0], []⟩ 8 (by kernel_rfl) (by kernel_rfl) (by kernel_rfl) (by kernel_rfl)) ?_
  intro W base args ds gs before hval hW _ _
  exact contract H enc W base args ds gs before hval hW
theorem over : Rows.workersForeignRow.holds Try.pinned (OpenSpec.ofChange Rows.workersForeignSpec) :=
  OpenClaim.holds_of_wide 7 f7 rfl rfl rfl rfl rfl rfl rfl ⟨rfl, rfl, rfl, rfl, rfl⟩ rfl rfl rfl rfl rfl (by kernel_rfl) func7 (by kernel_rfl)
    (of_decide_eq_true (by kernel_rfl)) (by unfold Func.isWrapper; first | (rw [if_pos (by decide +kernel)]; kernel_rfl) | (rw [if_neg (by decide +kernel)]; exact ⟨rfl, rfl⟩))
    (fun os started H enc _ => lifted os started H enc)
theorem proved : Rows.WorkersForeignSaid := over
end Go.Proofs.Ytfhkfahgimibaaa.foreign
