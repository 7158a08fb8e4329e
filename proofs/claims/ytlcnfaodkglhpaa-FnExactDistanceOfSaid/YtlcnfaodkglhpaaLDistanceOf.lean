/-
  FnExactDistanceOf returns true for every input, and leaves its arguments as they were.
  Conditions: none beyond the given statement's own.
-/
import Derived.Test.YtlcnfaodkglhpaaWDistanceOf
import Derived.Test.YtlcnfaodkglhpaaOP
namespace Go.Proofs.Ytlcnfaodkglhpaa
open Go.ChangeShapes Go.WideShapes Go.ChangeAt Go.RowKit

set_option maxRecDepth 100000 in
theorem FnExactDistanceOf_lifted (os : Os) (started : os.Started) (H : Type) (enc : TypeId × Value → H) :
    ReturnsInHanded {} Try.checked os 14 .any (Rows.fnExactDistanceOfSpec.pre6 enc Try.prog Try.f14 Rows.fnExactDistanceOfRow.domain false) (Rows.fnExactDistanceOfSpec.post enc Try.prog Try.f14 false true false false) := by
  refine returnsInHanded_of_change (C := Try.checked) Try_own started (by kernel_rfl) Try.func14
    (ChangeSpec.witness6 (enc := enc) (C := Try.checked) false ⟨#[], #[.agg #[.int .i64 0, .slice none 0 0]], []⟩ 8 (by kernel_rfl) (by kernel_rfl) (by kernel_rfl) (by kernel_rfl)) ?_
  intro W base args ds gs before hval0 hW hcnd _
  have hval : ∀ (j : Nat) t v, Try.f14.params[j]? = some t → args[j]? = some v → Value.okWide Try.prog W .any base t v := hval0
  have hW' := hW
  obtain ⟨p, q, hA0, hV, rfl, hfz, hnd⟩ := hW
  have hA : DataW.TrodAll enc Try.prog W 0 (fun _ => true) true Try.f14.params.toList args.toList ds p := hA0
  rw [Try.params14] at hA hval
  obtain ⟨v0, vs0, d0, ds0, p0, q0, hargs, rfl, rfl, h0, r0⟩ := trodAll_cons hA
  obtain ⟨rfl, rfl, rfl⟩ := trodAll_nil r0
  obtain rfl : args = #[v0] := by cases args; simp_all
  obtain ⟨rfl, rfl⟩ := trodVars_none hV
  obtain ⟨a0, A1, n1, c1, x1, rfl, hl1, hm1, hs1⟩ := open_Parity (hval 0 121 v0 rfl rfl) h0
  exact law_end Try_laid (by kernel_rfl) rfl Try.underlying4 rfl rfl hW' (law_DistanceOf W a0 A1 n1 c1 x1 hl1 hm1 hs1)

theorem FnExactDistanceOf_named : Try.prog.funcNamed Rows.fnExactDistanceOfRow.func = some 14 := by kernel_rfl
theorem FnExactDistanceOf_closed : joinedFacts Try.prog 14 Try.f14 Rows.fnExactDistanceOfSpec Rows.fnExactDistanceOfRow = true := by kernel_rfl
theorem FnExactDistanceOf_inst : Try.f14.isInstance Try.prog Rows.fnExactDistanceOfRow.origin Rows.fnExactDistanceOfRow.targs := of_decide_eq_true (by kernel_rfl)
theorem FnExactDistanceOf_wrap : Try.f14.isWrapper Try.prog Rows.fnExactDistanceOfRow.wrapper Rows.fnExactDistanceOfRow.mainSum := by unfold Func.isWrapper; first | (rw [if_pos (by decide +kernel)]; kernel_rfl) | (rw [if_neg (by decide +kernel)]; exact ⟨rfl, rfl⟩)
theorem FnExactDistanceOf_holds : Rows.FnExactDistanceOfSaid :=
  OpenClaim.holds_of_wide 14 Try.f14 rfl rfl rfl rfl rfl rfl rfl ⟨rfl, rfl, rfl, rfl, rfl⟩ rfl rfl rfl rfl rfl FnExactDistanceOf_named Try.func14 FnExactDistanceOf_closed FnExactDistanceOf_inst FnExactDistanceOf_wrap
    (fun os started H enc _ => FnExactDistanceOf_lifted os started H enc)
#print axioms FnExactDistanceOf_holds
end Go.Proofs.Ytlcnfaodkglhpaa
