/-
  FnExactWeightsOf returns true for every input, and leaves its arguments as they were.
  Conditions: none beyond the given statement's own.
-/
import Derived.Test.YtlipejcmjhmnaaaWWeightsOf
import Derived.Test.YtlipejcmjhmnaaaOP
namespace Go.Proofs.Ytlipejcmjhmnaaa
open Go.ChangeShapes Go.WideShapes Go.ChangeAt Go.RowKit

set_option maxRecDepth 100000 in
theorem FnExactWeightsOf_lifted (os : Os) (started : os.Started) (H : Type) (enc : TypeId × Value → H) :
    ReturnsInHanded {} Try.checked os 3 .any (Rows.fnExactWeightsOfSpec.pre6 enc Try.prog Try.f3 Rows.fnExactWeightsOfRow.domain false) (Rows.fnExactWeightsOfSpec.post enc Try.prog Try.f3 false true false false) := by
  refine returnsInHanded_of_change (C := Try.checked) Try_own started (by kernel_rfl) Try.func3
    (ChangeSpec.witness6 (enc := enc) (C := Try.checked) false ⟨#[], #[.agg #[.int .i64 0, .slice none 0 0]], []⟩ 8 (by kernel_rfl) (by kernel_rfl) (by kernel_rfl) (by kernel_rfl)) ?_
  intro W base args ds gs before hval0 hW hcnd _
  have hval : ∀ (j : Nat) t v, Try.f3.params[j]? = some t → args[j]? = some v → Value.okWide Try.prog W .any base t v := hval0
  have hW' := hW
  obtain ⟨p, q, hA0, hV, rfl, hfz, hnd⟩ := hW
  have hA : DataW.TrodAll enc Try.prog W 0 (fun _ => true) true Try.f3.params.toList args.toList ds p := hA0
  rw [Try.params3] at hA hval
  obtain ⟨v0, vs0, d0, ds0, p0, q0, hargs, rfl, rfl, h0, r0⟩ := trodAll_cons hA
  obtain ⟨rfl, rfl, rfl⟩ := trodAll_nil r0
  obtain rfl : args = #[v0] := by cases args; simp_all
  obtain ⟨rfl, rfl⟩ := trodVars_none hV
  obtain ⟨a0, A1, n1, c1, x1, rfl, hl1, hm1, hs1⟩ := open_Parity (hval 0 24 v0 rfl rfl) h0
  exact law_end Try_laid (by kernel_rfl) rfl Try.underlying4 rfl rfl hW' (law_WeightsOf W a0 A1 n1 c1 x1 hl1 hm1 hs1)

theorem FnExactWeightsOf_named : Try.prog.funcNamed Rows.fnExactWeightsOfRow.func = some 3 := by kernel_rfl
theorem FnExactWeightsOf_closed : joinedFacts Try.prog 3 Try.f3 Rows.fnExactWeightsOfSpec Rows.fnExactWeightsOfRow = true := by kernel_rfl
theorem FnExactWeightsOf_inst : Try.f3.isInstance Try.prog Rows.fnExactWeightsOfRow.origin Rows.fnExactWeightsOfRow.targs := of_decide_eq_true (by kernel_rfl)
theorem FnExactWeightsOf_wrap : Try.f3.isWrapper Try.prog Rows.fnExactWeightsOfRow.wrapper Rows.fnExactWeightsOfRow.mainSum := by unfold Func.isWrapper; first | (rw [if_pos (by decide +kernel)]; kernel_rfl) | (rw [if_neg (by decide +kernel)]; exact ⟨rfl, rfl⟩)
theorem FnExactWeightsOf_holds : Rows.FnExactWeightsOfSaid :=
  OpenClaim.holds_of_wide 3 Try.f3 rfl rfl rfl rfl rfl rfl rfl ⟨rfl, rfl, rfl, rfl, rfl⟩ rfl rfl rfl rfl rfl FnExactWeightsOf_named Try.func3 FnExactWeightsOf_closed FnExactWeightsOf_inst FnExactWeightsOf_wrap
    (fun os started H enc _ => FnExactWeightsOf_lifted os started H enc)
#print axioms FnExactWeightsOf_holds
end Go.Proofs.Ytlipejcmjhmnaaa
