/-
  FnExactBoundedCode returns true for every input, and leaves its arguments as they were.
  Conditions: none beyond the given statement's own.
-/
import Derived.Test.YtkmfjadlobpbkaaWBoundedCode
import Derived.Test.YtkmfjadlobpbkaaO
namespace Go.Proofs.Ytkmfjadlobpbkaa
open Go.ChangeShapes Go.WideShapes Go.ChangeAt Go.RowKit

set_option maxRecDepth 100000 in
theorem FnExactBoundedCode_lifted (os : Os) (started : os.Started) (H : Type) (enc : TypeId × Value → H) :
    ReturnsInHanded {} Try.checked os 3 .any (Rows.fnExactBoundedCodeSpec.pre6 enc Try.prog Try.f3 Rows.fnExactBoundedCodeRow.domain false) (Rows.fnExactBoundedCodeSpec.post enc Try.prog Try.f3 false true false false) := by
  refine returnsInHanded_of_change (C := Try.checked) Try_own started (by kernel_rfl) Try.func3
    (ChangeSpec.witness6 (enc := enc) (C := Try.checked) false ⟨#[], #[.slice none 0 0, .int .i64 0], []⟩ 8 (by kernel_rfl) (by kernel_rfl) (by kernel_rfl) (by kernel_rfl)) ?_
  intro W base args ds gs before hval0 hW hcnd _
  have hval : ∀ (j : Nat) t v, Try.f3.params[j]? = some t → args[j]? = some v → Value.okWide Try.prog W .any base t v := hval0
  have hW' := hW
  obtain ⟨p, q, hA0, hV, rfl, hfz, hnd⟩ := hW
  have hA : DataW.TrodAll enc Try.prog W 0 (fun _ => true) true Try.f3.params.toList args.toList ds p := hA0
  rw [Try.params3] at hA hval
  obtain ⟨v0, vs0, d0, ds0, p0, q0, hargs, rfl, rfl, h0, r0⟩ := trodAll_cons hA
  obtain ⟨v1, vs1, d1, ds1, p1, q1, rfl, rfl, rfl, h1, r1⟩ := trodAll_cons r0
  obtain ⟨rfl, rfl, rfl⟩ := trodAll_nil r1
  obtain rfl : args = #[v0, v1] := by cases args; simp_all
  obtain ⟨rfl, rfl⟩ := trodVars_none hV
  obtain ⟨A0, n0, c0, x0, rfl, hl0, hc0, hm0, hg0, hs0⟩ := open_i64s (hval 0 22 v0 rfl rfl) h0
  obtain ⟨a1, rfl, rfl, rfl, wa1⟩ := open_int Try.underlying2 (hval 1 2 v1 rfl rfl) h1
  exact law_end Try_laid (by kernel_rfl) rfl Try.underlying4 rfl rfl hW' (law_BoundedCode W A0 n0 c0 x0 hl0 (Nat.le_trans hc0 hm0) hs0 a1)

theorem FnExactBoundedCode_named : Try.prog.funcNamed Rows.fnExactBoundedCodeRow.func = some 3 := by kernel_rfl
theorem FnExactBoundedCode_closed : joinedFacts Try.prog 3 Try.f3 Rows.fnExactBoundedCodeSpec Rows.fnExactBoundedCodeRow = true := by kernel_rfl
theorem FnExactBoundedCode_inst : Try.f3.isInstance Try.prog Rows.fnExactBoundedCodeRow.origin Rows.fnExactBoundedCodeRow.targs := of_decide_eq_true (by kernel_rfl)
theorem FnExactBoundedCode_wrap : Try.f3.isWrapper Try.prog Rows.fnExactBoundedCodeRow.wrapper Rows.fnExactBoundedCodeRow.mainSum := by unfold Func.isWrapper; first | (rw [if_pos (by decide +kernel)]; kernel_rfl) | (rw [if_neg (by decide +kernel)]; exact ⟨rfl, rfl⟩)
theorem FnExactBoundedCode_holds : Rows.FnExactBoundedCodeSaid :=
  OpenClaim.holds_of_wide 3 Try.f3 rfl rfl rfl rfl rfl rfl rfl ⟨rfl, rfl, rfl, rfl, rfl⟩ rfl rfl rfl rfl rfl FnExactBoundedCode_named Try.func3 FnExactBoundedCode_closed FnExactBoundedCode_inst FnExactBoundedCode_wrap
    (fun os started H enc _ => FnExactBoundedCode_lifted os started H enc)
#print axioms FnExactBoundedCode_holds
end Go.Proofs.Ytkmfjadlobpbkaa
