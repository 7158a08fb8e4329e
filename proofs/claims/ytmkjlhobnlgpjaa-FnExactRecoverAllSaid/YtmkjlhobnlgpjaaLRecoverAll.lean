/-
  FnExactRecoverAll returns true for every input, and leaves its arguments as they were.
  Conditions: none beyond the given statement's own.
-/
import Derived.Test.YtmkjlhobnlgpjaaWRecoverAll
import Derived.Test.YtmkjlhobnlgpjaaO
namespace Go.Proofs.Ytmkjlhobnlgpjaa
open Go.ChangeShapes Go.WideShapes Go.ChangeAt Go.RowKit

set_option maxRecDepth 100000 in
theorem FnExactRecoverAll_lifted (os : Os) (started : os.Started) (H : Type) (enc : TypeId × Value → H) :
    ReturnsInHanded {} Try.checked os 7 .any (Rows.fnExactRecoverAllSpec.pre6 enc Try.prog Try.f7 Rows.fnExactRecoverAllRow.domain false) (Rows.fnExactRecoverAllSpec.post enc Try.prog Try.f7 false true false false) := by
  refine returnsInHanded_of_change (C := Try.checked) Try_own started (by kernel_rfl) Try.func7
    (ChangeSpec.witness6 (enc := enc) (C := Try.checked) false ⟨#[], #[.string .empty], []⟩ 8 (by kernel_rfl) (by kernel_rfl) (by kernel_rfl) (by kernel_rfl)) ?_
  intro W base args ds gs before hval0 hW hcnd _
  have hval : ∀ (j : Nat) t v, Try.f7.params[j]? = some t → args[j]? = some v → Value.okWide Try.prog W .any base t v := hval0
  have hW' := hW
  obtain ⟨p, q, hA0, hV, rfl, hfz, hnd⟩ := hW
  have hA : DataW.TrodAll enc Try.prog W 0 (fun _ => true) true Try.f7.params.toList args.toList ds p := hA0
  rw [Try.params7] at hA hval
  obtain ⟨v0, vs0, d0, ds0, p0, q0, hargs, rfl, rfl, h0, r0⟩ := trodAll_cons hA
  obtain ⟨rfl, rfl, rfl⟩ := trodAll_nil r0
  obtain rfl : args = #[v0] := by cases args; simp_all
  obtain ⟨rfl, rfl⟩ := trodVars_none hV
  obtain ⟨s0, rfl, rfl, rfl, ws0⟩ := ChangeMaps.open_string Try.underlying9 (hval 0 9 v0 rfl rfl) h0
  exact law_end Try_laid (by kernel_rfl) rfl Try.underlying4 rfl rfl hW' (law_RecoverAll W s0 ws0)

theorem FnExactRecoverAll_named : Try.prog.funcNamed Rows.fnExactRecoverAllRow.func = some 7 := by kernel_rfl
theorem FnExactRecoverAll_closed : joinedFacts Try.prog 7 Try.f7 Rows.fnExactRecoverAllSpec Rows.fnExactRecoverAllRow = true := by kernel_rfl
theorem FnExactRecoverAll_inst : Try.f7.isInstance Try.prog Rows.fnExactRecoverAllRow.origin Rows.fnExactRecoverAllRow.targs := of_decide_eq_true (by kernel_rfl)
theorem FnExactRecoverAll_wrap : Try.f7.isWrapper Try.prog Rows.fnExactRecoverAllRow.wrapper Rows.fnExactRecoverAllRow.mainSum := by unfold Func.isWrapper; first | (rw [if_pos (by decide +kernel)]; kernel_rfl) | (rw [if_neg (by decide +kernel)]; exact ⟨rfl, rfl⟩)
theorem FnExactRecoverAll_holds : Rows.FnExactRecoverAllSaid :=
  OpenClaim.holds_of_wide 7 Try.f7 rfl rfl rfl rfl rfl rfl rfl ⟨rfl, rfl, rfl, rfl, rfl⟩ rfl rfl rfl rfl rfl FnExactRecoverAll_named Try.func7 FnExactRecoverAll_closed FnExactRecoverAll_inst FnExactRecoverAll_wrap
    (fun os started H enc _ => FnExactRecoverAll_lifted os started H enc)
#print axioms FnExactRecoverAll_holds
end Go.Proofs.Ytmkjlhobnlgpjaa
