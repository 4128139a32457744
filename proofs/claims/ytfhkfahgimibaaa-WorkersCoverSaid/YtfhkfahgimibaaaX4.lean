/- The law WorkersCover returns true for every input, and each argument reads afterwards as it read before. No condition. -/
import Derived.Test.YtfhkfahgimibaaaRows
import Derived.Test.YtfhkfahgimibaaaL4
import Derived.Test.YtfhkfahgimibaaaLW
namespace Go.Proofs.Ytfhkfahgimibaaa.cover
open Go.QL Go.Proofs.Try Go.ChangeShapes Go.WideShapes Go.ChangeAt Go.RowKit
set_option maxRecDepth 100000 in
theorem contract (H : Type) (enc : TypeId × Value → H) (W : World) (base : Nat) (args : Array Value) (ds gs : List (DataW H)) (before : List MemPlace)
    (hval : ∀ (j : Nat) t v, f4.params[j]? = some t → args[j]? = some v → Value.okWide prog W .any base t v)
    (hW : DataW.Whole enc prog f4.params.toList Rows.workersCoverSpec.vars false W args.toList ds gs before) :
    Calls prog 4 args W fun e W' => ∃ v, e = .returned v ∧ Rows.workersCoverSpec.post enc prog f4 false true false false W args v W' := by
  have hW' := hW
  obtain ⟨p, q, hA0, hV, rfl, hfz, hnd⟩ := hW
  have hA : DataW.TrodAll enc prog W 0 (fun _ => true) true f4.params.toList args.toList ds p := hA0
  rw [params4] at hA hval
  obtain ⟨v0, vs0, d0, ds0, p0, q0, e0, rfl, rfl, h0, r0⟩ := trodAll_cons hA
  obtain ⟨v1, vs1, d1, ds1, p1, q1, rfl, rfl, rfl, h1, r1⟩ := trodAll_cons r0
  obtain ⟨v2, vs2, d2, ds2, p2, q2, rfl, rfl, rfl, h2, r2⟩ := trodAll_cons r1
  obtain ⟨v3, vs3, d3, ds3, p3, q3, rfl, rfl, rfl, h3, r3⟩ := trodAll_cons r2
  obtain ⟨rfl, rfl, rfl⟩ := trodAll_nil r3
  obtain rfl : args = #[v0, v1, v2, v3] := by
    cases args
    simp_all
  obtain ⟨rfl, rfl⟩ := trodVars_none hV
  obtain ⟨a0, rfl, rfl, rfl, w0⟩ := open_int underlying3 (hval 0 3 v0 rfl rfl) h0
  obtain ⟨a1, rfl, rfl, rfl, w1⟩ := open_int underlying3 (hval 1 3 v1 rfl rfl) h1
  obtain ⟨a2, rfl, rfl, rfl, w2⟩ := open_int underlying3 (hval 2 3 v2 rfl rfl) h2
  obtain ⟨a3, rfl, rfl, rfl, w3⟩ := open_int underlying3 (hval 3 3 v3 rfl rfl) h3
  refine (law_calls (c4 a0 a1 a2 a3) ?_ ?_).mono fun e W' ⟨he, hf⟩ => ?_
  · simp [DenL, Den]
  · simp [lbs, lb]
  subst he
  exact ⟨_, rfl, law_post (by kernel_rfl) rfl rfl (by rw [params4]; decide +kernel) hW' hf⟩
set_option maxRecDepth 100000 in
theorem lifted (os : Os) (started : os.Started) (H : Type) (enc : TypeId × Value → H) :
    ReturnsInHanded {} checked os 4 .any (Rows.workersCoverSpec.pre6 enc prog f4 Rows.workersCoverRow.domain false) (Rows.workersCoverSpec.post enc prog f4 false true false false) := by
  refine returnsInHanded_of_change (C := checked) p_own started (by kernel_rfl) func4
    (ChangeSpec.witness6 (enc := enc) (C := checked) false ⟨#[], #[.int .i64 0, .int .i64 0, .int .i64 0, .int .i64 0], []⟩ 8 (by kernel_rfl) (by kernel_rfl) (by kernel_rfl) (by kernel_rfl)) ?_
  intro W base args ds gs before hval hW _ _
  exact contract H enc W base args ds gs before hval hW
theorem over : Rows.workersCoverRow.holds Try.pinned (OpenSpec.ofChange Rows.workersCoverSpec) :=
  OpenClaim.holds_of_wide 4 f4 rfl rfl rfl rfl rfl rfl rfl ⟨rfl, rfl, rfl, rfl, rfl⟩ rfl rfl rfl rfl rfl (by kernel_rfl) func4 (by kernel_rfl)
    (of_decide_eq_true (by kernel_rfl)) (by unfold Func.isWrapper; first | (rw [if_pos (by decide +kernel)]; kernel_rfl) | (rw [if_neg (by decide +kernel)]; exact ⟨rfl, rfl⟩))
    (fun os started H enc _ => lifted os started H enc)
theorem proved : Rows.WorkersCoverSaid := over
end Go.Proofs.Ytfhkfahgimibaaa.cover
