/-
  FnExactStoreSaved returns true for every input, and leaves its arguments as they were.
  Conditions: none beyond the given statement's own.
-/
import Derived.Test.YtmkjlhobnlgpjaaWStoreSaved
import Derived.Test.YtmkjlhobnlgpjaaOD
namespace Go.Proofs.Ytmkjlhobnlgpjaa
open Go.ChangeShapes Go.WideShapes Go.ChangeAt Go.RowKit

set_option maxRecDepth 100000 in
theorem FnExactStoreSaved_lifted (os : Os) (started : os.Started) (H : Type) (enc : TypeId × Value → H) :
    ReturnsInHanded {} Try.checked os 4 .any (Rows.fnExactStoreSavedSpec.pre6 enc Try.prog Try.f4 Rows.fnExactStoreSavedRow.domain false) (Rows.fnExactStoreSavedSpec.post enc Try.prog Try.f4 false true false false) := by
  refine returnsInHanded_of_change (C := Try.checked) Try_own started (by kernel_rfl) Try.func4
    (ChangeSpec.witness6 (enc := enc) (C := Try.checked) false ⟨#[], #[.agg #[.string .empty, .slice none 0 0, .slice none 0 0]], []⟩ 8 (by kernel_rfl) (by kernel_rfl) (by kernel_rfl) (by kernel_rfl)) ?_
  intro W base args ds gs before hval0 hW hcnd _
  have hval : ∀ (j : Nat) t v, Try.f4.params[j]? = some t → args[j]? = some v → Value.okWide Try.prog W .any base t v := hval0
  have hW' := hW
  obtain ⟨p, q, hA0, hV, rfl, hfz, hnd⟩ := hW
  have hA : DataW.TrodAll enc Try.prog W 0 (fun _ => true) true Try.f4.params.toList args.toList ds p := hA0
  rw [Try.params4] at hA hval
  obtain ⟨v0, vs0, d0, ds0, p0, q0, hargs, rfl, rfl, h0, r0⟩ := trodAll_cons hA
  obtain ⟨rfl, rfl, rfl⟩ := trodAll_nil r0
  obtain rfl : args = #[v0] := by cases args; simp_all
  obtain ⟨rfl, rfl⟩ := trodVars_none hV
  obtain ⟨a0, A1, n1, c1, x1, A2, n2, c2, x2, rfl, hw0, hl1, hm1, hs1, hl2, hm2, hs2, hf2⟩ := open_SavedF (hval 0 31 v0 rfl rfl) h0
  exact law_end Try_laid (by kernel_rfl) rfl Try.underlying4 rfl rfl hW' (law_StoreSaved W a0 A1 n1 c1 x1 A2 n2 c2 x2 hw0 hl1 hm1 hs1 hl2 hm2 hs2 hf2)

theorem FnExactStoreSaved_named : Try.prog.funcNamed Rows.fnExactStoreSavedRow.func = some 4 := by kernel_rfl
theorem FnExactStoreSaved_closed : joinedFacts Try.prog 4 Try.f4 Rows.fnExactStoreSavedSpec Rows.fnExactStoreSavedRow = true := by kernel_rfl
theorem FnExactStoreSaved_inst : Try.f4.isInstance Try.prog Rows.fnExactStoreSavedRow.origin Rows.fnExactStoreSavedRow.targs := of_decide_eq_true (by kernel_rfl)
theorem FnExactStoreSaved_wrap : Try.f4.isWrapper Try.prog Rows.fnExactStoreSavedRow.wrapper Rows.fnExactStoreSavedRow.mainSum := by unfold Func.isWrapper; first | (rw [if_pos (by decide +kernel)]; kernel_rfl) | (rw [if_neg (by decide +kernel)]; exact ⟨rfl, rfl⟩)
theorem FnExactStoreSaved_holds : Rows.FnExactStoreSavedSaid :=
  OpenClaim.holds_of_wide 4 Try.f4 rfl rfl rfl rfl rfl rfl rfl ⟨rfl, rfl, rfl, rfl, rfl⟩ rfl rfl rfl rfl rfl FnExactStoreSaved_named Try.func4 FnExactStoreSaved_closed FnExactStoreSaved_inst FnExactStoreSaved_wrap
    (fun os started H enc _ => FnExactStoreSaved_lifted os started H enc)
#print axioms FnExactStoreSaved_holds
end Go.Proofs.Ytmkjlhobnlgpjaa
