/-
  Contracts: the paper's exponential in single precision, and the logarithm of both programs, up to the bits of a NaN.
  Conditions: the exponential's number is a gap (GU); the logarithm's is a NaN or between one and two.
-/
import Derived.Test.YtopeidmafalklaaGU
namespace Go.Proofs.Ytopeidmafalklaa
open Ieee Go.RowKit


theorem spec_l01NarrowO_c (w : World) (x : Nat) (h : ∀ y, fl .f64 x = some y → ∃ r, floatToFloatBits .f64 y .f32 = some r) :
    Calls Try.prog 86 #[.float .f64 x] w fun e w' => ∃ v, e = .returned (.float .f32 v) ∧ (fl .f32 v = (fl .f64 x).bind fun y => floatToFloatBits .f64 y .f32) ∧ ∃ q, w' = w.drewN q := by
  go_enter Try.func86, Try.ntmps86
  go_wp2
  go_ret
  exact ⟨_, rfl, fl_narrow h _ _, _, rfl⟩

theorem exp_valueO {d b : Nat} (hg : Gap d) (hf : farB (fl .f32 d) = false) (hb : fl .f64 b = expWideO (widen (fl .f32 d))) : (∀ y, fl .f64 b = some y → ∃ r, floatToFloatBits .f64 y .f32 = some r) ∧ ((fl .f64 b).bind fun y => floatToFloatBits .f64 y .f32) = expO (fl .f32 d) := by
  by_cases hn : nanB .f32 d = true
  · rw [fl_nan hn] at hb ⊢
    have : widen none = none := rfl
    rw [this, expWideO_none] at hb
    rw [hb]
    exact ⟨fun y hy => (nomatch hy), rfl⟩
  · have hfl : fl .f32 d = some d := fl_nn (by simpa using hn)
    rw [hfl] at hb hf ⊢
    have hgap : d = 0 ∨ sgnF d = true := by
      rcases hg with h | ⟨_, h⟩ | h
      · exact absurd h hn
      · exact h
      · subst h; exact .inr (by decide)
    obtain ⟨r, hr, _⟩ := expNum_some hgap
    have hr' := hr
    unfold expNum at hr'
    have hnf : ¬ (sgnF d = true ∧ 1128792064 < absF d) := of_decide_eq_false hf
    rw [if_neg hnf] at hr'
    cases hy : floatToFloatBits .f32 d .f64 with
    | none => rw [hy] at hr'; cases hr'
    | some y =>
      rw [hy] at hr'
      simp only [Option.bind_some] at hr'
      cases hp : expWide y with
      | none => rw [hp] at hr'; cases hr'
      | some p =>
        rw [hp] at hr'
        simp only [Option.bind_some] at hr'
        have hw : widen (some d) = some y := hy
        rw [hw, expWideO_some, hp] at hb
        rw [hb]
        refine ⟨fun z hz => by cases hz; exact ⟨r, hr'⟩, ?_⟩
        show floatToFloatBits .f64 p .f32 = expNum d
        rw [hr, hr']
theorem exp_fin {d y b : Nat} (hg : Gap d) (hy : fl .f64 y = widen (fl .f32 d)) (hb : fl .f64 b = if farB (fl .f32 d) then some 0 else expWideO (fl .f64 y)) : ∀ z, fl .f64 b = some z → ∃ r, floatToFloatBits .f64 z .f32 = some r := by
  by_cases hf : farB (fl .f32 d) = true
  · rw [if_pos hf] at hb
    intro z hz
    rw [hb] at hz
    cases hz
    exact ⟨0, by decide⟩
  · rw [if_neg hf, hy] at hb
    exact (exp_valueO hg (by simpa using hf) hb).1
theorem exp_val {d y b : Nat} (hg : Gap d) (hy : fl .f64 y = widen (fl .f32 d)) (hb : fl .f64 b = if farB (fl .f32 d) then some 0 else expWideO (fl .f64 y)) : ((fl .f64 b).bind fun y => floatToFloatBits .f64 y .f32) = expO (fl .f32 d) := by
  by_cases hf : farB (fl .f32 d) = true
  · rw [if_pos hf] at hb
    rw [hb, expO_far hf]
    decide
  · rw [if_neg hf, hy] at hb
    exact (exp_valueO hg (by simpa using hf) hb).2
/-- the paper's tests of the widened gap -/
theorem Gap.wide {d y : Nat} (hg : Gap d) (hy : fl .f64 y = widen (fl .f32 d)) : (FloatKind.f64.format.order y 4641240890982006784 == some Ordering.gt) = false ∧ (FloatKind.f64.format.order y 13864612927836782592 == some Ordering.lt) = farB (fl .f32 d) := by
  rcases hg with h | ⟨h1, h2⟩ | rfl
  · rw [order_fl, order_fl, hy, fl_nan h]
    exact ⟨rfl, rfl⟩
  · rw [fl_nn (fin_nn h1)] at hy ⊢
    rcases h2 with rfl | h2
    · obtain ⟨t1, t2, t3⟩ := tests_zero
      have hw : widen (some 0) = some 0 := t1
      rw [hw] at hy
      obtain ⟨rfl, _⟩ := fl_inv hy
      exact ⟨t2, by rw [show FloatKind.f64.format = double from rfl, t3]; decide⟩
    · obtain ⟨z, hz, _, _, t1, t2⟩ := wide_tests h1 h2
      have hw : widen (some d) = some z := hz
      rw [hw] at hy
      obtain ⟨rfl, _⟩ := fl_inv hy
      exact ⟨t1, t2⟩
  · obtain ⟨t1, t2, t3, _⟩ := tests_inf
    have hfl : fl .f32 4286578688 = some 4286578688 := by decide
    have hw : widen (some 4286578688) = some 18442240474082181120 := t1
    rw [hfl, hw] at hy
    obtain ⟨rfl, _⟩ := fl_inv hy
    exact ⟨t2, by rw [show FloatKind.f64.format = double from rfl, t3, hfl]; decide⟩


set_option maxRecDepth 100000 in
theorem spec_l01Exp_c (w : World) (d : Nat) (hg : Gap d) : Calls Try.prog 74 #[.float .f32 d] w fun e w' => ∃ v, e = .returned (.float .f32 v) ∧ fl .f32 v = expO (fl .f32 d) ∧ ∃ q, w' = w.drewN q := by
  obtain ⟨y, hy⟩ : ∃ y, fcv .f32 d .f64 w.tape w.drawn = y := ⟨_, rfl⟩
  have hfy : fl .f64 y = widen (fl .f32 d) := by rw [← hy]; exact fl_widen d _ _
  obtain ⟨t1, t2⟩ := hg.wide hfy
  go_enter Try.func74, Try.ntmps74
  have HF := Lib.hid hfy
  have HG := Lib.hid hg
  have HC := Lib.hid fun W => spec_l01ExpWide_c W y _ t1 t2
  clear hfy hg t1 t2
  go_wp2_with (first
    | rw [hy]
    | (go_at_call 88; refine (HC.out _).mono ?_; rintro e w' ⟨b, rfl, hb, q, rfl⟩; have HB := Lib.hid hb; clear hb)
    | (go_at_call 86; refine (spec_l01NarrowO_c _ _ (exp_fin HG.out HF.out HB.out)).mono ?_; rintro e w' ⟨v, rfl, hv, q2, rfl⟩))
  go_ret
  exact ⟨_, rfl, hv.trans (exp_val HG.out HF.out HB.out), _, rfl⟩

end Go.Proofs.Ytopeidmafalklaa
