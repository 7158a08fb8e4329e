/-
  FnExactMergedCode returns true for every input, and leaves its arguments as they were.
  Conditions: none beyond the given statement's own.
-/
import Derived.Test.YtcjgadepbbcjeaaWMergedCode
import Derived.Test.YtcjgadepbbcjeaaO
namespace Go.Proofs.Ytcjgadepbbcjeaa
open Go.ChangeShapes Go.WideShapes Go.ChangeAt Go.RowKit

set_option maxRecDepth 100000 in
theorem FnExactMergedCode_lifted (os : Os) (started : os.Started) (H : Type) (enc : TypeId × Value → H) :
    ReturnsInHanded {} Try.checked os 3 .any (Rows.fnExactMergedCodeSpec.pre6 enc Try.prog Try.f3 Rows.fnExactMergedCodeRow.domain false) (Rows.fnExactMergedCodeSpec.post enc Try.prog Try.f3 false true false false) := by
  refine returnsInHanded_of_change (C := Try.checked) Try_own started (by kernel_rfl) Try.func3
    (ChangeSpec.witness6 (enc := enc) (C := Try.checked) false ⟨#[], #[.slice none 0 0], []⟩ 8 (by kernel_rfl) (by kernel_rfl) (by kernel_rfl) (by kernel_rfl)) ?_
  intro W base args ds gs before hval0 hW hcnd _
  have hval : ∀ (j : Nat) t v, Try.f3.params[j]? = some t → args[j]? = some v → Value.okWide Try.prog W .any base t v := hval0
  have hW' := hW
  obtain ⟨p, q, hA0, hV, rfl, hfz, hnd⟩ := hW
  have hA : DataW.TrodAll enc Try.prog W 0 (fun _ => true) true Try.f3.params.toList args.toList ds p := hA0
  rw [Try.params3] at hA hval
  obtain ⟨v0, vs0, d0, ds0, p0, q0, hargs, rfl, rfl, h0, r0⟩ := trodAll_cons hA
  obtain ⟨rfl, rfl, rfl⟩ := trodAll_nil r0
  obtain rfl : args = #[v0] := by cases args; simp_all
  obtain ⟨rfl, rfl⟩ := trodVars_none hV
  obtain ⟨A0, n0, c0, x0, rfl, hl0, hc0, hm0, hg0, hs0⟩ := open_i64s (hval 0 22 v0 rfl rfl) h0
  exact law_end Try_laid (by kernel_rfl) rfl Try.underlying4 rfl rfl hW' (law_MergedCode W A0 n0 c0 x0 hl0 (Nat.le_trans hc0 hm0) hs0)

theorem FnExactMergedCode_named : Try.prog.funcNamed Rows.fnExactMergedCodeRow.func = some 3 := by kernel_rfl
theorem FnExactMergedCode_closed : joinedFacts Try.prog 3 Try.f3 Rows.fnExactMergedCodeSpec Rows.fnExactMergedCodeRow = true := by kernel_rfl
theorem FnExactMergedCode_inst : Try.f3.isInstance Try.prog Rows.fnExactMergedCodeRow.origin Rows.fnExactMergedCodeRow.targs := of_decide_eq_true (by kernel_rfl)
theorem FnExactMergedCode_wrap : Try.f3.isWrapper Try.prog Rows.fnExactMergedCodeRow.wrapper Rows.fnExactMergedCodeRow.mainSum := by unfold Func.isWrapper; first | (rw [if_pos (by decide +kernel)]; kernel_rfl) | (rw [if_neg (by decide +kernel)]; exact ⟨rfl, rfl⟩)
theorem FnExactMergedCode_holds : Rows.FnExactMergedCodeSaid :=
  OpenClaim.holds_of_wide 3 Try.f3 rfl rfl rfl rfl rfl rfl rfl ⟨rfl, rfl, rfl, rfl, rfl⟩ rfl rfl rfl rfl rfl FnExactMergedCode_named Try.func3 FnExactMergedCode_closed FnExactMergedCode_inst FnExactMergedCode_wrap
    (fun os started H enc _ => FnExactMergedCode_lifted os started H enc)
#print axioms FnExactMergedCode_holds
end Go.Proofs.Ytcjgadepbbcjeaa
