/-
  FnExactLoadSaved returns true for every input, and leaves its arguments as they were.
  Conditions: none beyond the given statement's own.
-/
import Derived.Test.YtmkjlhobnlgpjaaWLoadSaved
import Derived.Test.YtmkjlhobnlgpjaaO
namespace Go.Proofs.Ytmkjlhobnlgpjaa
open Go.ChangeShapes Go.WideShapes Go.ChangeAt Go.RowKit

set_option maxRecDepth 100000 in
theorem FnExactLoadSaved_lifted (os : Os) (started : os.Started) (H : Type) (enc : TypeId × Value → H) :
    ReturnsInHanded {} Try.checked os 6 .any (Rows.fnExactLoadSavedSpec.pre6 enc Try.prog Try.f6 Rows.fnExactLoadSavedRow.domain false) (Rows.fnExactLoadSavedSpec.post enc Try.prog Try.f6 false true false false) := by
  refine returnsInHanded_of_change (C := Try.checked) Try_own started (by kernel_rfl) Try.func6
    (ChangeSpec.witness6 (enc := enc) (C := Try.checked) false ⟨#[], #[.string .empty], []⟩ 8 (by kernel_rfl) (by kernel_rfl) (by kernel_rfl) (by kernel_rfl)) ?_
  intro W base args ds gs before hval0 hW hcnd _
  have hval : ∀ (j : Nat) t v, Try.f6.params[j]? = some t → args[j]? = some v → Value.okWide Try.prog W .any base t v := hval0
  have hW' := hW
  obtain ⟨p, q, hA0, hV, rfl, hfz, hnd⟩ := hW
  have hA : DataW.TrodAll enc Try.prog W 0 (fun _ => true) true Try.f6.params.toList args.toList ds p := hA0
  rw [Try.params6] at hA hval
  obtain ⟨v0, vs0, d0, ds0, p0, q0, hargs, rfl, rfl, h0, r0⟩ := trodAll_cons hA
  obtain ⟨rfl, rfl, rfl⟩ := trodAll_nil r0
  obtain rfl : args = #[v0] := by cases args; simp_all
  obtain ⟨rfl, rfl⟩ := trodVars_none hV
  obtain ⟨s0, rfl, rfl, rfl, ws0⟩ := ChangeMaps.open_string Try.underlying9 (hval 0 9 v0 rfl rfl) h0
  exact law_end Try_laid (by kernel_rfl) rfl Try.underlying4 rfl rfl hW' (law_LoadSaved W s0 ws0)

theorem FnExactLoadSaved_named : Try.prog.funcNamed Rows.fnExactLoadSavedRow.func = some 6 := by kernel_rfl
theorem FnExactLoadSaved_closed : joinedFacts Try.prog 6 Try.f6 Rows.fnExactLoadSavedSpec Rows.fnExactLoadSavedRow = true := by kernel_rfl
theorem FnExactLoadSaved_inst : Try.f6.isInstance Try.prog Rows.fnExactLoadSavedRow.origin Rows.fnExactLoadSavedRow.targs := of_decide_eq_true (by kernel_rfl)
theorem FnExactLoadSaved_wrap : Try.f6.isWrapper Try.prog Rows.fnExactLoadSavedRow.wrapper Rows.fnExactLoadSavedRow.mainSum := by unfold Func.isWrapper; first | (rw [if_pos (by decide +kernel)]; kernel_rfl) | (rw [if_neg (by decide +kernel)]; exact ⟨rfl, rfl⟩)
theorem FnExactLoadSaved_holds : Rows.FnExactLoadSavedSaid :=
  OpenClaim.holds_of_wide 6 Try.f6 rfl rfl rfl rfl rfl rfl rfl ⟨rfl, rfl, rfl, rfl, rfl⟩ rfl rfl rfl rfl rfl FnExactLoadSaved_named Try.func6 FnExactLoadSaved_closed FnExactLoadSaved_inst FnExactLoadSaved_wrap
    (fun os started H enc _ => FnExactLoadSaved_lifted os started H enc)
#print axioms FnExactLoadSaved_holds
end Go.Proofs.Ytmkjlhobnlgpjaa
