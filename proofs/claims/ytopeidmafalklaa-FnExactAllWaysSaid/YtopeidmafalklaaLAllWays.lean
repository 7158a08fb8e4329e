/-
  FnExactAllWays returns true for every input, and leaves its arguments as they were.
  Conditions: none beyond the given statement's own.
-/
import Derived.Test.YtopeidmafalklaaWAllWays
import Derived.Test.YtopeidmafalklaaO
namespace Go.Proofs.Ytopeidmafalklaa
open Go.ChangeShapes Go.WideShapes Go.ChangeAt Go.RowKit

set_option maxRecDepth 100000 in
theorem FnExactAllWays_lifted (os : Os) (started : os.Started) (H : Type) (enc : TypeId × Value → H) :
    ReturnsInHanded {} Try.checked os 3 .any (Rows.fnExactAllWaysSpec.pre6 enc Try.prog Try.f3 Rows.fnExactAllWaysRow.domain false) (Rows.fnExactAllWaysSpec.post enc Try.prog Try.f3 false true false false) := by
  refine returnsInHanded_of_change (C := Try.checked) Try_own started (by kernel_rfl) Try.func3
    (ChangeSpec.witness6 (enc := enc) (C := Try.checked) false ⟨#[], #[.agg #[.int .i64 0, .slice none 0 0], .slice none 0 0], []⟩ 8 (by kernel_rfl) (by kernel_rfl) (by kernel_rfl) (by kernel_rfl)) ?_
  intro W base args ds gs before hval0 hW hcnd _
  have hval : ∀ (j : Nat) t v, Try.f3.params[j]? = some t → args[j]? = some v → Value.okWide Try.prog W .any base t v := hval0
  have hW' := hW
  obtain ⟨p, q, hA0, hV, rfl, hfz, hnd⟩ := hW
  have hA : DataW.TrodAll enc Try.prog W 0 (fun _ => true) true Try.f3.params.toList args.toList ds p := hA0
  rw [Try.params3] at hA hval
  obtain ⟨v0, vs0, d0, ds0, p0, q0, hargs, rfl, rfl, h0, r0⟩ := trodAll_cons hA
  obtain ⟨v1, vs1, d1, ds1, p1, q1, rfl, rfl, rfl, h1, r1⟩ := trodAll_cons r0
  obtain ⟨rfl, rfl, rfl⟩ := trodAll_nil r1
  obtain rfl : args = #[v0, v1] := by cases args; simp_all
  obtain ⟨rfl, rfl⟩ := trodVars_none hV
  obtain ⟨a0, A1, n1, c1, x1, rfl, hl1, hm1, hs1⟩ := open_Coder (hval 0 24 v0 rfl rfl) h0
  obtain ⟨A2, n2, c2, x2, rfl, hl2, hc2, hm2, hg2, hs2⟩ := open_f32s (hval 1 25 v1 rfl rfl) h1
  exact law_end Try_laid (by kernel_rfl) rfl Try.underlying4 rfl rfl hW' (law_AllWays W a0 A1 n1 c1 x1 A2 n2 c2 x2 hl1 hm1 hs1 hl2 (Nat.le_trans hc2 hm2) hs2)

theorem FnExactAllWays_named : Try.prog.funcNamed Rows.fnExactAllWaysRow.func = some 3 := by kernel_rfl
theorem FnExactAllWays_closed : joinedFacts Try.prog 3 Try.f3 Rows.fnExactAllWaysSpec Rows.fnExactAllWaysRow = true := by kernel_rfl
theorem FnExactAllWays_inst : Try.f3.isInstance Try.prog Rows.fnExactAllWaysRow.origin Rows.fnExactAllWaysRow.targs := of_decide_eq_true (by kernel_rfl)
theorem FnExactAllWays_wrap : Try.f3.isWrapper Try.prog Rows.fnExactAllWaysRow.wrapper Rows.fnExactAllWaysRow.mainSum := by unfold Func.isWrapper; first | (rw [if_pos (by decide +kernel)]; kernel_rfl) | (rw [if_neg (by decide +kernel)]; exact ⟨rfl, rfl⟩)
theorem FnExactAllWays_holds : Rows.FnExactAllWaysSaid :=
  OpenClaim.holds_of_wide 3 Try.f3 rfl rfl rfl rfl rfl rfl rfl ⟨rfl, rfl, rfl, rfl, rfl⟩ rfl rfl rfl rfl rfl FnExactAllWays_named Try.func3 FnExactAllWays_closed FnExactAllWays_inst FnExactAllWays_wrap
    (fun os started H enc _ => FnExactAllWays_lifted os started H enc)
#print axioms FnExactAllWays_holds
end Go.Proofs.Ytopeidmafalklaa
