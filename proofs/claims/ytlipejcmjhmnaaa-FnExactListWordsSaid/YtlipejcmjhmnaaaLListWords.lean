/-
  FnExactListWords returns true for every input, and leaves its arguments as they were.
  Conditions: none beyond the given statement's own.
-/
import Derived.Test.YtlipejcmjhmnaaaWListWords
import Derived.Test.YtlipejcmjhmnaaaOP
namespace Go.Proofs.Ytlipejcmjhmnaaa
open Go.ChangeShapes Go.WideShapes Go.ChangeAt Go.RowKit

set_option maxRecDepth 100000 in
theorem FnExactListWords_lifted (os : Os) (started : os.Started) (H : Type) (enc : TypeId × Value → H) :
    ReturnsInHanded {} Try.checked os 4 .any (Rows.fnExactListWordsSpec.pre6 enc Try.prog Try.f4 Rows.fnExactListWordsRow.domain false) (Rows.fnExactListWordsSpec.post enc Try.prog Try.f4 false true false false) := by
  refine returnsInHanded_of_change (C := Try.checked) Try_own started (by kernel_rfl) Try.func4
    (ChangeSpec.witness6 (enc := enc) (C := Try.checked) false ⟨#[], #[.agg #[.int .i64 0, .slice none 0 0], .int .i64 0, .int .i64 0], []⟩ 8 (by kernel_rfl) (by kernel_rfl) (by kernel_rfl) (by kernel_rfl)) ?_
  intro W base args ds gs before hval0 hW hcnd _
  have hval : ∀ (j : Nat) t v, Try.f4.params[j]? = some t → args[j]? = some v → Value.okWide Try.prog W .any base t v := hval0
  have hW' := hW
  obtain ⟨p, q, hA0, hV, rfl, hfz, hnd⟩ := hW
  have hA : DataW.TrodAll enc Try.prog W 0 (fun _ => true) true Try.f4.params.toList args.toList ds p := hA0
  rw [Try.params4] at hA hval
  obtain ⟨v0, vs0, d0, ds0, p0, q0, hargs, rfl, rfl, h0, r0⟩ := trodAll_cons hA
  obtain ⟨v1, vs1, d1, ds1, p1, q1, rfl, rfl, rfl, h1, r1⟩ := trodAll_cons r0
  obtain ⟨v2, vs2, d2, ds2, p2, q2, rfl, rfl, rfl, h2, r2⟩ := trodAll_cons r1
  obtain ⟨rfl, rfl, rfl⟩ := trodAll_nil r2
  obtain rfl : args = #[v0, v1, v2] := by cases args; simp_all
  obtain ⟨rfl, rfl⟩ := trodVars_none hV
  obtain ⟨a0, A1, n1, c1, x1, rfl, hl1, hm1, hs1⟩ := open_Parity (hval 0 24 v0 rfl rfl) h0
  obtain ⟨a2, rfl, rfl, rfl, wa2⟩ := open_int Try.underlying2 (hval 1 2 v1 rfl rfl) h1
  obtain ⟨a3, rfl, rfl, rfl, wa3⟩ := open_int Try.underlying2 (hval 2 2 v2 rfl rfl) h2
  exact law_end Try_laid (by kernel_rfl) rfl Try.underlying4 rfl rfl hW' (law_ListWords W a0 A1 n1 c1 x1 a2 a3 hl1 hm1 hs1)

theorem FnExactListWords_named : Try.prog.funcNamed Rows.fnExactListWordsRow.func = some 4 := by kernel_rfl
theorem FnExactListWords_closed : joinedFacts Try.prog 4 Try.f4 Rows.fnExactListWordsSpec Rows.fnExactListWordsRow = true := by kernel_rfl
theorem FnExactListWords_inst : Try.f4.isInstance Try.prog Rows.fnExactListWordsRow.origin Rows.fnExactListWordsRow.targs := of_decide_eq_true (by kernel_rfl)
theorem FnExactListWords_wrap : Try.f4.isWrapper Try.prog Rows.fnExactListWordsRow.wrapper Rows.fnExactListWordsRow.mainSum := by unfold Func.isWrapper; first | (rw [if_pos (by decide +kernel)]; kernel_rfl) | (rw [if_neg (by decide +kernel)]; exact ⟨rfl, rfl⟩)
theorem FnExactListWords_holds : Rows.FnExactListWordsSaid :=
  OpenClaim.holds_of_wide 4 Try.f4 rfl rfl rfl rfl rfl rfl rfl ⟨rfl, rfl, rfl, rfl, rfl⟩ rfl rfl rfl rfl rfl FnExactListWords_named Try.func4 FnExactListWords_closed FnExactListWords_inst FnExactListWords_wrap
    (fun os started H enc _ => FnExactListWords_lifted os started H enc)
#print axioms FnExactListWords_holds
end Go.Proofs.Ytlipejcmjhmnaaa
