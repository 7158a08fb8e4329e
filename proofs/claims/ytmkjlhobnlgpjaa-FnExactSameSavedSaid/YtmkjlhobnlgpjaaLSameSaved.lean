/-
  FnExactSameSaved returns true for every input, and leaves its arguments as they were.
  Conditions: none beyond the given statement's own.
-/
import Derived.Test.YtmkjlhobnlgpjaaWSameSaved
import Derived.Test.YtmkjlhobnlgpjaaOS
namespace Go.Proofs.Ytmkjlhobnlgpjaa
open Go.ChangeShapes Go.WideShapes Go.ChangeAt Go.RowKit

set_option maxRecDepth 100000 in
theorem FnExactSameSaved_lifted (os : Os) (started : os.Started) (H : Type) (enc : TypeId × Value → H) :
    ReturnsInHanded {} Try.checked os 3 .any (Rows.fnExactSameSavedSpec.pre6 enc Try.prog Try.f3 Rows.fnExactSameSavedRow.domain false) (Rows.fnExactSameSavedSpec.post enc Try.prog Try.f3 false true false false) := by
  refine returnsInHanded_of_change (C := Try.checked) Try_own started (by kernel_rfl) Try.func3
    (ChangeSpec.witness6 (enc := enc) (C := Try.checked) false ⟨#[], #[.slice none 0 0, .slice none 0 0], []⟩ 8 (by kernel_rfl) (by kernel_rfl) (by kernel_rfl) (by kernel_rfl)) ?_
  intro W base args ds gs before hval0 hW hcnd _
  have hval : ∀ (j : Nat) t v, Try.f3.params[j]? = some t → args[j]? = some v → Value.okWide Try.prog W .any base t v := hval0
  have hW' := hW
  obtain ⟨p, q, hA0, hV, rfl, hfz, hnd⟩ := hW
  have hA : DataW.TrodAll enc Try.prog W 0 (fun _ => true) true Try.f3.params.toList args.toList ds p := hA0
  rw [Try.params3] at hA hval
  obtain ⟨v0, vs0, d0, ds0, p0, q0, hargs, rfl, rfl, h0, r0⟩ := trodAll_cons hA
  obtain ⟨v1, vs1, d1, ds1, p1, q1, rfl, rfl, rfl, h1, r1⟩ := trodAll_cons r0
  obtain ⟨rfl, rfl, rfl⟩ := trodAll_nil r1
  obtain rfl : args = #[v0, v1] := by cases args; simp_all
  obtain ⟨rfl, rfl⟩ := trodVars_none hV
  obtain ⟨A0, n0, c0, x0, rfl, hl0, hm0, hk0, hf0, hs0⟩ := open_SavedS (hval 0 22 v0 rfl rfl) h0
  obtain ⟨A1, n1, c1, x1, rfl, hl1, hm1, hk1, hf1, hs1⟩ := open_SavedS (hval 1 22 v1 rfl rfl) h1
  exact law_end Try_laid (by kernel_rfl) rfl Try.underlying4 rfl rfl hW' (law_SameSaved W A0 n0 c0 x0 A1 n1 c1 x1 hl0 hm0 hk0 hf0 hs0 hl1 hm1 hk1 hf1 hs1)

theorem FnExactSameSaved_named : Try.prog.funcNamed Rows.fnExactSameSavedRow.func = some 3 := by kernel_rfl
theorem FnExactSameSaved_closed : joinedFacts Try.prog 3 Try.f3 Rows.fnExactSameSavedSpec Rows.fnExactSameSavedRow = true := by kernel_rfl
theorem FnExactSameSaved_inst : Try.f3.isInstance Try.prog Rows.fnExactSameSavedRow.origin Rows.fnExactSameSavedRow.targs := of_decide_eq_true (by kernel_rfl)
theorem FnExactSameSaved_wrap : Try.f3.isWrapper Try.prog Rows.fnExactSameSavedRow.wrapper Rows.fnExactSameSavedRow.mainSum := by unfold Func.isWrapper; first | (rw [if_pos (by decide +kernel)]; kernel_rfl) | (rw [if_neg (by decide +kernel)]; exact ⟨rfl, rfl⟩)
theorem FnExactSameSaved_holds : Rows.FnExactSameSavedSaid :=
  OpenClaim.holds_of_wide 3 Try.f3 rfl rfl rfl rfl rfl rfl rfl ⟨rfl, rfl, rfl, rfl, rfl⟩ rfl rfl rfl rfl rfl FnExactSameSaved_named Try.func3 FnExactSameSaved_closed FnExactSameSaved_inst FnExactSameSaved_wrap
    (fun os started H enc _ => FnExactSameSaved_lifted os started H enc)
#print axioms FnExactSameSaved_holds
end Go.Proofs.Ytmkjlhobnlgpjaa
