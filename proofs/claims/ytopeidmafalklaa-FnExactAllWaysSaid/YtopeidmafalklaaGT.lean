/-
  Contract: the paper's narrowing.
  Conditions: the narrowed number has a value.
-/
import Derived.Test.YtopeidmafalklaaR
import Derived.Test.YtopeidmafalklaaFLT
namespace Go.Proofs.Ytopeidmafalklaa
open Go.RowKit


theorem spec_l01Narrow_c (w : World) (x r : Nat) (h : floatToFloatBits .f64 x .f32 = some r) : Calls Try.prog 86 #[.float .f64 x] w fun e w' => e = .returned (.float .f32 r) ∧ w' = w := by
  go_enter Try.func86, Try.ntmps86
  go_wp2
  go_ret
  have h0 : fcvd .f64 x .f32 = 0 := by unfold fcvd; rw [h]
  have h1 : ∀ t d, fcv .f64 x .f32 t d = r := fun t d => by unfold fcv; rw [h]
  rw [h0]
  refine ⟨?_, rfl⟩
  rw [h1]
  rfl

end Go.Proofs.Ytopeidmafalklaa
