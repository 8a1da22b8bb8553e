/- The row of FnExactConsoleFault: at every argument the law returns true and the argument reads as it did; no condition. -/
import Derived.Test.YtnmjgjedkdmefaaGreatRows
import Derived.Test.YtnmjgjedkdmefaaGreatS6HCF
import Derived.WalkKit
import Derived.ProofKit
import Derived.OpenShut
import Derived.ShutString
import Derived.ChangeOld
import Derived.Below
import Derived.SizedLaws
namespace Go.Proofs.YtnmjgjedkdmefaaGreat.fnExactConsoleFault
open Go.ChangeShapes Go.WideShapes Go.ChangeAt Go.RowKit
set_option linter.unusedVariables false
theorem own : ownKnob Tryz.prog.godebug = none := by kernel_rfl
theorem laidOut : laidOutB Tryz.prog = true := by kernel_rfl
set_option maxRecDepth 100000 in
theorem lifted (os : Os) (started : os.Started) (H : Type) (enc : TypeId × Value → H) :
    ReturnsInHanded {} Tryz.checked os 3 .any (Rows.fnExactConsoleFaultSpec.pre6 enc Tryz.prog Tryz.f3 Rows.fnExactConsoleFaultRow.domain false) (Rows.fnExactConsoleFaultSpec.post enc Tryz.prog Tryz.f3 false true false false) := by
  refine returnsInHanded_of_change_sized (C := Tryz.checked) own started (by kernel_rfl) Tryz.func3
    (ChangeSpec.witness6 (enc := enc) (C := Tryz.checked) false ⟨#[], #[.agg #[.int .i64 0, .int .i64 0, .int .i64 0, .int .i64 0, .int .i64 0, .bool false, .slice none 0 0, .int .i64 0, .int .i64 0, .slice none 0 0, .slice none 0 0, .int .i64 0, .int .i64 0, .bool false, .int .i64 0, .int .i64 0, .int .i64 0, .bool false, .bool false, .bool false, .slice none 0 0, .int .i64 0, .int .i64 0, .int .i64 0, .slice none 0 0, .int .i64 0, .int .i64 0, .int .i64 0, .int .i64 0, .int .i64 0, .int .i64 0, .int .i64 0, .int .i64 0, .int .i64 0, .slice none 0 0, .slice none 0 0, .bool false, .int .i64 0]], []⟩ 8 (by kernel_rfl) (by kernel_rfl) (by kernel_rfl) (by kernel_rfl)) ?_
  intro W base args ds gs before hval0 hW hcnd hsz0 _
  have hval : ∀ (j : Nat) t v, Tryz.f3.params[j]? = some t → args[j]? = some v → Value.okWide Tryz.prog W .any base t v := hval0
  have hW' := hW
  obtain ⟨p, q, hA0, hV, rfl, hfz, hnd⟩ := hW
  have hA : DataW.TrodAll enc Tryz.prog W 0 (fun _ => true) true Tryz.f3.params.toList args.toList ds p := hA0
  rw [Tryz.params3] at hA hval
  have hargs := hA
  obtain ⟨v0, vs0, d0, ds0, p0, q0, e0, rfl, rfl, h0, hA⟩ := trodAll_cons hA
  obtain ⟨rfl, rfl, rfl⟩ := trodAll_nil hA
  obtain ⟨rfl, rfl⟩ := trodVars_none hV
  have hcall := Go.Ab.law_calls (C := Go.Ab.CT) Go.Ab.CT_ok rfl Go.Ab.all_FnExactConsoleFault Go.Ab.good_ok (ts := [42]) (by decide) (fun j t v h1 h2 => hval j t v (by simpa using h1) (by simpa using h2)) hargs
  refine hcall.mono fun e W' ⟨he, bel⟩ => ?_
  subst he
  have hafter : DataW.TrodAll enc Tryz.prog W' 0 (fun b => decide (b < W.heap.size)) true [42] args.toList _ _ := Go.Ab.trodAll_below laidOut bel (by kernel_rfl) hargs
  exact ⟨_, rfl, _, _, _, [], _, [], hW', trodAll_mk1 (shut_bool Tryz.underlying4 _), hafter, rfl, bel.frame _, fun h => by cases h⟩
theorem over : Rows.fnExactConsoleFaultRow.holds Tryz.pinned (OpenSpec.ofChange Rows.fnExactConsoleFaultSpec) :=
  OpenClaim.holds_of_wide 3 Tryz.f3 rfl rfl rfl rfl rfl rfl rfl ⟨rfl, rfl, rfl, rfl, rfl⟩ rfl rfl rfl rfl rfl (by kernel_rfl) Tryz.func3 (by kernel_rfl)
    (of_decide_eq_true (by kernel_rfl)) (by unfold Func.isWrapper; first | (rw [if_pos (by decide +kernel)]; kernel_rfl) | (rw [if_neg (by decide +kernel)]; exact ⟨rfl, rfl⟩))
    (fun os started H enc _ => lifted os started H enc)
theorem proved : Rows.FnExactConsoleFaultSaid := over
#print axioms proved
end Go.Proofs.YtnmjgjedkdmefaaGreat.fnExactConsoleFault
namespace Go.Proofs.YtnmjgjedkdmefaaGreat
/-- The row, under a short name, for the claim. -/
theorem fnExactConsoleFault_holds : Rows.FnExactConsoleFaultSaid := fnExactConsoleFault.proved
end Go.Proofs.YtnmjgjedkdmefaaGreat
