/-
  FnExactCountOutputs: the law's walk.
  Conditions: internal/bytealg.MaxLen's cell holds a number.
-/
import Derived.Test.YtemlmgkkjaeefaaDoorLP
namespace Go.Proofs.YtemlmgkkjaeefaaDoor
open Go.RowKit

set_option maxRecDepth 100000 in
set_option maxHeartbeats 1000000 in
theorem law_CountOutputs (w : World) (s : ByteArray) (hs : s.size ≤ maxLen) (hm : maxLenOk w) :
    Calls Tryd.prog 3 #[.string s] w fun e w' => e = .returned (.bool true) ∧ Below w.heap.size w w' := by
  unfold maxLen at hs
  by_cases h1 : s.size ≤ 1048576
  · have hml := hm.lt
    go_enter Tryd.func3, Tryd.ntmps3
    go_wp2_with fail
    refine (spec_CountOutputs_c w s h1).mono ?_
    rintro e w1 ⟨rfl, hb1⟩
    go_wp2_with fail
    refine (impl_CountOutputs_c w1 s h1 (hm.below hb1 hml)).mono ?_
    rintro e w2 ⟨rfl, hb2⟩
    go_wp2
    go_ret
    exact ⟨rfl, hb1.trans (hb2.mono hb1.size)⟩
  · go_enter Tryd.func3, Tryd.ntmps3
    go_wp2
    go_ret
    exact ⟨rfl, Below.refl _ _⟩

end Go.Proofs.YtemlmgkkjaeefaaDoor
