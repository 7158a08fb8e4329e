/-
  FnWays returns true for every input, and leaves its arguments as they were.
  Conditions: none beyond the given statement's own.
-/
import Derived.Test.YtopeidmafalklaaPk09
import Derived.Test.YtopeidmafalklaaPk01

namespace Go.Proofs.Ytopeidmafalklaa
open Go.ChangeShapes Go.WideShapes Go.ChangeAt Go.RowKit

set_option maxRecDepth 100000 in
theorem FnWays_lifted (os : Os) (started : os.Started) (H : Type) (enc : TypeId × Value → H) :
    ReturnsInHanded {} Try.checked os 4 .any (Rows.fnWaysSpec.pre6 enc Try.prog Try.f4 Rows.fnWaysRow.domain false) (Rows.fnWaysSpec.post enc Try.prog Try.f4 false true false false) := by
  refine returnsInHanded_of_change (C := Try.checked) Try_own started (by kernel_rfl) Try.func4
    (ChangeSpec.witness6 (enc := enc) (C := Try.checked) false ⟨#[], #[.slice none 0 0, .slice none 0 0], []⟩ 8 (by kernel_rfl) (by kernel_rfl) (by kernel_rfl) (by kernel_rfl)) ?_
  intro W base args ds gs before hval0 hW hcnd _
  have hval : ∀ (j : Nat) t v, Try.f4.params[j]? = some t → args[j]? = some v → Value.okWide Try.prog W .any base t v := hval0
  have hW' := hW
  obtain ⟨p, q, hA0, hV, rfl, hfz, hnd⟩ := hW
  have hA : DataW.TrodAll enc Try.prog W 0 (fun _ => true) true Try.f4.params.toList args.toList ds p := hA0
  rw [Try.params4] at hA hval
  obtain ⟨v0, vs0, d0, ds0, p0, q0, hargs, rfl, rfl, h0, r0⟩ := trodAll_cons hA
  obtain ⟨v1, vs1, d1, ds1, p1, q1, rfl, rfl, rfl, h1, r1⟩ := trodAll_cons r0
  obtain ⟨rfl, rfl, rfl⟩ := trodAll_nil r1
  obtain rfl : args = #[v0, v1] := by cases args; simp_all
  obtain ⟨rfl, rfl⟩ := trodVars_none hV
  obtain ⟨A1, n1, c1, x1, rfl, hl1, hc1, hm1, hg1, hs1⟩ := open_u8s (hval 0 37 v0 rfl rfl) h0
  obtain ⟨A2, n2, c2, x2, rfl, hl2, hc2, hm2, hg2, hs2⟩ := open_u8s (hval 1 37 v1 rfl rfl) h1
  exact law_end Try_laid (by kernel_rfl) rfl Try.underlying4 rfl rfl hW' (law_FnWays W A1 n1 c1 x1 A2 n2 c2 x2 hl1 (Nat.le_trans hc1 hm1) (fun x hx => wf_u8 (hg1 x hx)) hs1 hl2 (Nat.le_trans hc2 hm2) (fun x hx => wf_u8 (hg2 x hx)) hs2)

theorem FnWays_named : Try.prog.funcNamed Rows.fnWaysRow.func = some 4 := by kernel_rfl
theorem FnWays_closed : joinedFacts Try.prog 4 Try.f4 Rows.fnWaysSpec Rows.fnWaysRow = true := by kernel_rfl
theorem FnWays_inst : Try.f4.isInstance Try.prog Rows.fnWaysRow.origin Rows.fnWaysRow.targs := of_decide_eq_true (by kernel_rfl)
theorem FnWays_wrap : Try.f4.isWrapper Try.prog Rows.fnWaysRow.wrapper Rows.fnWaysRow.mainSum := by unfold Func.isWrapper; first | (rw [if_pos (by decide +kernel)]; kernel_rfl) | (rw [if_neg (by decide +kernel)]; exact ⟨rfl, rfl⟩)
theorem FnWays_holds : Rows.FnWaysSaid :=
  OpenClaim.holds_of_wide 4 Try.f4 rfl rfl rfl rfl rfl rfl rfl ⟨rfl, rfl, rfl, rfl, rfl⟩ rfl rfl rfl rfl rfl FnWays_named Try.func4 FnWays_closed FnWays_inst FnWays_wrap
    (fun os started H enc _ => FnWays_lifted os started H enc)
#print axioms FnWays_holds
end Go.Proofs.Ytopeidmafalklaa
