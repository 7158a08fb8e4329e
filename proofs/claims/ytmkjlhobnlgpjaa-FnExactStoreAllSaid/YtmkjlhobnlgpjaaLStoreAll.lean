/-
  FnExactStoreAll returns true for every input, and leaves its arguments as they were.
  Conditions: none beyond the given statement's own.
-/
import Derived.Test.YtmkjlhobnlgpjaaWStoreAll
import Derived.Test.YtmkjlhobnlgpjaaOS
namespace Go.Proofs.Ytmkjlhobnlgpjaa
open Go.ChangeShapes Go.WideShapes Go.ChangeAt Go.RowKit

set_option maxRecDepth 100000 in
theorem FnExactStoreAll_lifted (os : Os) (started : os.Started) (H : Type) (enc : TypeId × Value → H) :
    ReturnsInHanded {} Try.checked os 5 .any (Rows.fnExactStoreAllSpec.pre6 enc Try.prog Try.f5 Rows.fnExactStoreAllRow.domain false) (Rows.fnExactStoreAllSpec.post enc Try.prog Try.f5 false true false false) := by
  refine returnsInHanded_of_change (C := Try.checked) Try_own started (by kernel_rfl) Try.func5
    (ChangeSpec.witness6 (enc := enc) (C := Try.checked) false ⟨#[], #[.slice none 0 0], []⟩ 8 (by kernel_rfl) (by kernel_rfl) (by kernel_rfl) (by kernel_rfl)) ?_
  intro W base args ds gs before hval0 hW hcnd _
  have hval : ∀ (j : Nat) t v, Try.f5.params[j]? = some t → args[j]? = some v → Value.okWide Try.prog W .any base t v := hval0
  have hW' := hW
  obtain ⟨p, q, hA0, hV, rfl, hfz, hnd⟩ := hW
  have hA : DataW.TrodAll enc Try.prog W 0 (fun _ => true) true Try.f5.params.toList args.toList ds p := hA0
  rw [Try.params5] at hA hval
  obtain ⟨v0, vs0, d0, ds0, p0, q0, hargs, rfl, rfl, h0, r0⟩ := trodAll_cons hA
  obtain ⟨rfl, rfl, rfl⟩ := trodAll_nil r0
  obtain rfl : args = #[v0] := by cases args; simp_all
  obtain ⟨rfl, rfl⟩ := trodVars_none hV
  obtain ⟨A0, n0, c0, x0, rfl, hl0, hm0, hk0, hf0, hs0⟩ := open_SavedS (hval 0 22 v0 rfl rfl) h0
  exact law_end Try_laid (by kernel_rfl) rfl Try.underlying4 rfl rfl hW' (law_StoreAll W A0 n0 c0 x0 hl0 hm0 hk0 hf0 hs0)

theorem FnExactStoreAll_named : Try.prog.funcNamed Rows.fnExactStoreAllRow.func = some 5 := by kernel_rfl
theorem FnExactStoreAll_closed : joinedFacts Try.prog 5 Try.f5 Rows.fnExactStoreAllSpec Rows.fnExactStoreAllRow = true := by kernel_rfl
theorem FnExactStoreAll_inst : Try.f5.isInstance Try.prog Rows.fnExactStoreAllRow.origin Rows.fnExactStoreAllRow.targs := of_decide_eq_true (by kernel_rfl)
theorem FnExactStoreAll_wrap : Try.f5.isWrapper Try.prog Rows.fnExactStoreAllRow.wrapper Rows.fnExactStoreAllRow.mainSum := by unfold Func.isWrapper; first | (rw [if_pos (by decide +kernel)]; kernel_rfl) | (rw [if_neg (by decide +kernel)]; exact ⟨rfl, rfl⟩)
theorem FnExactStoreAll_holds : Rows.FnExactStoreAllSaid :=
  OpenClaim.holds_of_wide 5 Try.f5 rfl rfl rfl rfl rfl rfl rfl ⟨rfl, rfl, rfl, rfl, rfl⟩ rfl rfl rfl rfl rfl FnExactStoreAll_named Try.func5 FnExactStoreAll_closed FnExactStoreAll_inst FnExactStoreAll_wrap
    (fun os started H enc _ => FnExactStoreAll_lifted os started H enc)
#print axioms FnExactStoreAll_holds
end Go.Proofs.Ytmkjlhobnlgpjaa
