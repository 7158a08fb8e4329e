/-
  FnExactNewDesk returns true for every input, and leaves its arguments as they were.
  Conditions: none beyond the given statement's own.
-/
import Derived.Test.YtabblblnghljlaaWNewDesk
import Derived.Test.YtabblblnghljlaaO
namespace Go.Proofs.Ytabblblnghljlaa
open Go.ChangeShapes Go.WideShapes Go.ChangeAt Go.RowKit

set_option maxRecDepth 100000 in
theorem FnExactNewDesk_lifted (os : Os) (started : os.Started) (H : Type) (enc : TypeId × Value → H) :
    ReturnsInHanded {} Try.checked os 3 .any (Rows.fnExactNewDeskSpec.pre6 enc Try.prog Try.f3 Rows.fnExactNewDeskRow.domain false) (Rows.fnExactNewDeskSpec.post enc Try.prog Try.f3 false true false false) := by
  refine returnsInHanded_of_change (C := Try.checked) Try_own started (by kernel_rfl) Try.func3
    (ChangeSpec.witness6 (enc := enc) (C := Try.checked) false ⟨#[], #[], []⟩ 8 (by kernel_rfl) (by kernel_rfl) (by kernel_rfl) (by kernel_rfl)) ?_
  intro W base args ds gs before hval0 hW hcnd _
  have hW' := hW
  obtain ⟨p, q, hA0, hV, rfl, hfz, hnd⟩ := hW
  have hA : DataW.TrodAll enc Try.prog W 0 (fun _ => true) true Try.f3.params.toList args.toList ds p := hA0
  rw [Try.params3] at hA
  obtain ⟨hargs, rfl, rfl⟩ := trodAll_nil hA
  obtain ⟨rfl, rfl⟩ := trodVars_none hV
  obtain rfl : args = #[] := by cases args; simp_all
  exact law_end Try_laid (by kernel_rfl) rfl Try.underlying4 rfl rfl hW' (law_NewDesk W)

theorem FnExactNewDesk_named : Try.prog.funcNamed Rows.fnExactNewDeskRow.func = some 3 := by kernel_rfl
theorem FnExactNewDesk_closed : joinedFacts Try.prog 3 Try.f3 Rows.fnExactNewDeskSpec Rows.fnExactNewDeskRow = true := by kernel_rfl
theorem FnExactNewDesk_inst : Try.f3.isInstance Try.prog Rows.fnExactNewDeskRow.origin Rows.fnExactNewDeskRow.targs := of_decide_eq_true (by kernel_rfl)
theorem FnExactNewDesk_wrap : Try.f3.isWrapper Try.prog Rows.fnExactNewDeskRow.wrapper Rows.fnExactNewDeskRow.mainSum := by unfold Func.isWrapper; first | (rw [if_pos (by decide +kernel)]; kernel_rfl) | (rw [if_neg (by decide +kernel)]; exact ⟨rfl, rfl⟩)
theorem FnExactNewDesk_holds : Rows.FnExactNewDeskSaid :=
  OpenClaim.holds_of_wide 3 Try.f3 rfl rfl rfl rfl rfl rfl rfl ⟨rfl, rfl, rfl, rfl, rfl⟩ rfl rfl rfl rfl rfl FnExactNewDesk_named Try.func3 FnExactNewDesk_closed FnExactNewDesk_inst FnExactNewDesk_wrap
    (fun os started H enc _ => FnExactNewDesk_lifted os started H enc)
#print axioms FnExactNewDesk_holds
end Go.Proofs.Ytabblblnghljlaa
