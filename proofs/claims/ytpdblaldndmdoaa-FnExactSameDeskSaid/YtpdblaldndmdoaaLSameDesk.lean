/-
  FnExactSameDesk returns true for every input, and leaves its arguments as they were.
  Conditions: none beyond the given statement's own.
-/
import Derived.Test.YtpdblaldndmdoaaWSameDesk
import Derived.Test.YtpdblaldndmdoaaOE
namespace Go.Proofs.Ytpdblaldndmdoaa
open Go.ChangeShapes Go.WideShapes Go.ChangeAt Go.RowKit

set_option maxRecDepth 100000 in
theorem FnExactSameDesk_lifted (os : Os) (started : os.Started) (H : Type) (enc : TypeId × Value → H) :
    ReturnsInHanded {} Try.checked os 10 .any (Rows.fnExactSameDeskSpec.pre6 enc Try.prog Try.f10 Rows.fnExactSameDeskRow.domain false) (Rows.fnExactSameDeskSpec.post enc Try.prog Try.f10 false true false false) := by
  refine returnsInHanded_of_change (C := Try.checked) Try_own started (by kernel_rfl) Try.func10
    (ChangeSpec.witness6 (enc := enc) (C := Try.checked) false ⟨#[], #[.agg #[.slice none 0 0, .slice none 0 0, .int .i64 0, .slice none 0 0, .string .empty], .agg #[.slice none 0 0, .slice none 0 0, .int .i64 0, .slice none 0 0, .string .empty]], []⟩ 8 (by kernel_rfl) (by kernel_rfl) (by kernel_rfl) (by kernel_rfl)) ?_
  intro W base args ds gs before hval0 hW hcnd _
  have hval : ∀ (j : Nat) t v, Try.f10.params[j]? = some t → args[j]? = some v → Value.okWide Try.prog W .any base t v := hval0
  have hW' := hW
  obtain ⟨p, q, hA0, hV, rfl, hfz, hnd⟩ := hW
  have hA : DataW.TrodAll enc Try.prog W 0 (fun _ => true) true Try.f10.params.toList args.toList ds p := hA0
  rw [Try.params10] at hA hval
  obtain ⟨v0, vs0, d0, ds0, p0, q0, hargs, rfl, rfl, h0, r0⟩ := trodAll_cons hA
  obtain ⟨v1, vs1, d1, ds1, p1, q1, rfl, rfl, rfl, h1, r1⟩ := trodAll_cons r0
  obtain ⟨rfl, rfl, rfl⟩ := trodAll_nil r1
  obtain rfl : args = #[v0, v1] := by cases args; simp_all
  obtain ⟨rfl, rfl⟩ := trodVars_none hV
  obtain ⟨A0, n0, c0, x0, A1, n1, c1, x1, a2, A3, n3, c3, x3, a4, rfl, hl0, hm0, hs0, hf0, hl1, hm1, hs1, hl3, hm3, hs3, hw4⟩ := open_Desk (hval 0 78 v0 rfl rfl) h0
  obtain ⟨A5, n5, c5, x5, A6, n6, c6, x6, a7, A8, n8, c8, x8, a9, rfl, hl5, hm5, hs5, hf5, hl6, hm6, hs6, hl8, hm8, hs8, hw9⟩ := open_Desk (hval 1 78 v1 rfl rfl) h1
  exact law_end Try_laid (by kernel_rfl) rfl Try.underlying4 rfl rfl hW' (law_SameDesk W A0 n0 c0 x0 A1 n1 c1 x1 a2 A3 n3 c3 x3 a4 A5 n5 c5 x5 A6 n6 c6 x6 a7 A8 n8 c8 x8 a9 hl0 hm0 hs0 hf0 hl1 hm1 hs1 hl3 hm3 hs3 hw4 hl5 hm5 hs5 hf5 hl6 hm6 hs6 hl8 hm8 hs8 hw9)

theorem FnExactSameDesk_holds : Rows.FnExactSameDeskSaid :=
  OpenClaim.holds_of_wide 10 Try.f10 rfl rfl rfl rfl rfl rfl rfl ⟨rfl, rfl, rfl, rfl, rfl⟩ rfl rfl rfl rfl rfl (by kernel_rfl) Try.func10 (by kernel_rfl)
    (of_decide_eq_true (by kernel_rfl)) (by unfold Func.isWrapper; first | (rw [if_pos (by decide +kernel)]; kernel_rfl) | (rw [if_neg (by decide +kernel)]; exact ⟨rfl, rfl⟩))
    (fun os started H enc _ => FnExactSameDesk_lifted os started H enc)
#print axioms FnExactSameDesk_holds
end Go.Proofs.Ytpdblaldndmdoaa
