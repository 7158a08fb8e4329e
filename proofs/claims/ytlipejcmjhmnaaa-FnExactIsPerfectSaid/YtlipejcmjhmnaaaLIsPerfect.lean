/-
  FnExactIsPerfect returns true for every input, and leaves its arguments as they were.
  Conditions: none beyond the given statement's own.
-/
import Derived.Test.YtlipejcmjhmnaaaWIsPerfect
import Derived.Test.YtlipejcmjhmnaaaOP
namespace Go.Proofs.Ytlipejcmjhmnaaa
open Go.ChangeShapes Go.WideShapes Go.ChangeAt Go.RowKit

set_option maxRecDepth 100000 in
theorem FnExactIsPerfect_lifted (os : Os) (started : os.Started) (H : Type) (enc : TypeId × Value → H) :
    ReturnsInHanded {} Try.checked os 5 .any (Rows.fnExactIsPerfectSpec.pre6 enc Try.prog Try.f5 Rows.fnExactIsPerfectRow.domain false) (Rows.fnExactIsPerfectSpec.post enc Try.prog Try.f5 false true false false) := by
  refine returnsInHanded_of_change (C := Try.checked) Try_own started (by kernel_rfl) Try.func5
    (ChangeSpec.witness6 (enc := enc) (C := Try.checked) false ⟨#[], #[.agg #[.int .i64 0, .slice none 0 0]], []⟩ 8 (by kernel_rfl) (by kernel_rfl) (by kernel_rfl) (by kernel_rfl)) ?_
  intro W base args ds gs before hval0 hW hcnd _
  have hval : ∀ (j : Nat) t v, Try.f5.params[j]? = some t → args[j]? = some v → Value.okWide Try.prog W .any base t v := hval0
  have hW' := hW
  obtain ⟨p, q, hA0, hV, rfl, hfz, hnd⟩ := hW
  have hA : DataW.TrodAll enc Try.prog W 0 (fun _ => true) true Try.f5.params.toList args.toList ds p := hA0
  rw [Try.params5] at hA hval
  obtain ⟨v0, vs0, d0, ds0, p0, q0, hargs, rfl, rfl, h0, r0⟩ := trodAll_cons hA
  obtain ⟨rfl, rfl, rfl⟩ := trodAll_nil r0
  obtain rfl : args = #[v0] := by cases args; simp_all
  obtain ⟨rfl, rfl⟩ := trodVars_none hV
  obtain ⟨a0, A1, n1, c1, x1, rfl, hl1, hm1, hs1⟩ := open_Parity (hval 0 24 v0 rfl rfl) h0
  exact law_end Try_laid (by kernel_rfl) rfl Try.underlying4 rfl rfl hW' (law_IsPerfect W a0 A1 n1 c1 x1 hl1 hm1 hs1)

theorem FnExactIsPerfect_named : Try.prog.funcNamed Rows.fnExactIsPerfectRow.func = some 5 := by kernel_rfl
theorem FnExactIsPerfect_closed : joinedFacts Try.prog 5 Try.f5 Rows.fnExactIsPerfectSpec Rows.fnExactIsPerfectRow = true := by kernel_rfl
theorem FnExactIsPerfect_inst : Try.f5.isInstance Try.prog Rows.fnExactIsPerfectRow.origin Rows.fnExactIsPerfectRow.targs := of_decide_eq_true (by kernel_rfl)
theorem FnExactIsPerfect_wrap : Try.f5.isWrapper Try.prog Rows.fnExactIsPerfectRow.wrapper Rows.fnExactIsPerfectRow.mainSum := by unfold Func.isWrapper; first | (rw [if_pos (by decide +kernel)]; kernel_rfl) | (rw [if_neg (by decide +kernel)]; exact ⟨rfl, rfl⟩)
theorem FnExactIsPerfect_holds : Rows.FnExactIsPerfectSaid :=
  OpenClaim.holds_of_wide 5 Try.f5 rfl rfl rfl rfl rfl rfl rfl ⟨rfl, rfl, rfl, rfl, rfl⟩ rfl rfl rfl rfl rfl FnExactIsPerfect_named Try.func5 FnExactIsPerfect_closed FnExactIsPerfect_inst FnExactIsPerfect_wrap
    (fun os started H enc _ => FnExactIsPerfect_lifted os started H enc)
#print axioms FnExactIsPerfect_holds
end Go.Proofs.Ytlipejcmjhmnaaa
