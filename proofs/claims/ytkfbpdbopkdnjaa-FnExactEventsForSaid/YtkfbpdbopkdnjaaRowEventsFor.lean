/- The row of FnExactEventsFor: at every argument the law returns true and the argument reads as it did; no condition. -/
import Derived.Test.YtkfbpdbopkdnjaaRows
import Derived.Test.YtkfbpdbopkdnjaaS3RLL
import Derived.WalkKit
import Derived.ProofKit
import Derived.OpenShut
import Derived.ShutString
import Derived.ChangeOld
import Derived.Below
import Derived.SizedLaws
namespace Go.Proofs.Ytkfbpdbopkdnjaa.fnExactEventsFor
open Go.ChangeShapes Go.WideShapes Go.ChangeAt Go.RowKit
set_option linter.unusedVariables false
theorem own : ownKnob Try.prog.godebug = none := by kernel_rfl
theorem laidOut : laidOutB Try.prog = true := by kernel_rfl
set_option maxRecDepth 100000 in
theorem lifted (os : Os) (started : os.Started) (H : Type) (enc : TypeId × Value → H) :
    ReturnsInHanded {} Try.checked os 9 .any (Rows.fnExactEventsForSpec.pre6 enc Try.prog Try.f9 Rows.fnExactEventsForRow.domain false) (Rows.fnExactEventsForSpec.post enc Try.prog Try.f9 false true false false) := by
  refine returnsInHanded_of_change_sized (C := Try.checked) own started (by kernel_rfl) Try.func9
    (ChangeSpec.witness6 (enc := enc) (C := Try.checked) false ⟨#[], #[.slice none 0 0, .int .i64 0], []⟩ 8 (by kernel_rfl) (by kernel_rfl) (by kernel_rfl) (by kernel_rfl)) ?_
  intro W base args ds gs before hval0 hW hcnd hsz0 _
  have hval : ∀ (j : Nat) t v, Try.f9.params[j]? = some t → args[j]? = some v → Value.okWide Try.prog W .any base t v := hval0
  have hW' := hW
  obtain ⟨p, q, hA0, hV, rfl, hfz, hnd⟩ := hW
  have hA : DataW.TrodAll enc Try.prog W 0 (fun _ => true) true Try.f9.params.toList args.toList ds p := hA0
  rw [Try.params9] at hA hval
  have hargs := hA
  obtain ⟨v0, vs0, d0, ds0, p0, q0, e0, rfl, rfl, h0, hA⟩ := trodAll_cons hA
  obtain ⟨v1, vs1, d1, ds1, p1, q1, e1, rfl, rfl, h1, hA⟩ := trodAll_cons hA
  obtain ⟨rfl, rfl, rfl⟩ := trodAll_nil hA
  obtain ⟨rfl, rfl⟩ := trodVars_none hV
  have hcall := Go.Ab.law_calls (C := Go.Ab.CT) Go.Ab.CT_ok rfl Go.Ab.all_FnExactEventsFor Go.Ab.good_ok (ts := [82, 2]) (by decide) (fun j t v h1 h2 => hval j t v (by simpa using h1) (by simpa using h2)) hargs
  refine hcall.mono fun e W' ⟨he, bel⟩ => ?_
  subst he
  have hafter : DataW.TrodAll enc Try.prog W' 0 (fun b => decide (b < W.heap.size)) true [82, 2] args.toList _ _ := Go.Ab.trodAll_below laidOut bel (by kernel_rfl) hargs
  exact ⟨_, rfl, _, _, _, [], _, [], hW', trodAll_mk1 (shut_bool Try.underlying4 _), hafter, rfl, bel.frame _, fun h => by cases h⟩
theorem over : Rows.fnExactEventsForRow.holds Try.pinned (OpenSpec.ofChange Rows.fnExactEventsForSpec) :=
  OpenClaim.holds_of_wide 9 Try.f9 rfl rfl rfl rfl rfl rfl rfl ⟨rfl, rfl, rfl, rfl, rfl⟩ rfl rfl rfl rfl rfl (by kernel_rfl) Try.func9 (by kernel_rfl)
    (of_decide_eq_true (by kernel_rfl)) (by unfold Func.isWrapper; first | (rw [if_pos (by decide +kernel)]; kernel_rfl) | (rw [if_neg (by decide +kernel)]; exact ⟨rfl, rfl⟩))
    (fun os started H enc _ => lifted os started H enc)
theorem proved : Rows.FnExactEventsForSaid := over
#print axioms proved
end Go.Proofs.Ytkfbpdbopkdnjaa.fnExactEventsFor
namespace Go.Proofs.Ytkfbpdbopkdnjaa
/-- The row, under a short name, for the claim. -/
theorem fnExactEventsFor_holds : Rows.FnExactEventsForSaid := fnExactEventsFor.proved
end Go.Proofs.Ytkfbpdbopkdnjaa
