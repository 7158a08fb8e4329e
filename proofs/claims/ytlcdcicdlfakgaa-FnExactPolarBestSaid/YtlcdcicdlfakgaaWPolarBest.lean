/-
  FnExactPolarBest returns true for every input, and leaves its arguments as they were.
  Conditions: none beyond the given statement's own.
-/
import Derived.Test.YtlcdcicdlfakgaaH
import Derived.Test.YtlcdcicdlfakgaaKF
namespace Go.Proofs.Ytlcdcicdlfakgaa
open Go.RowKit

set_option maxRecDepth 100000 in
set_option maxHeartbeats 1000000 in
theorem law_PolarBest (w : World) (a0 : Int) (a1 : Nat) (a2 : Int)  :
    Calls Try.prog 5 #[.int .i64 a0, .float .f32 a1, .int .i64 a2] w fun e w' => e = .returned (.bool true) ∧ Below w.heap.size w w' := by
  go_enter Try.func5, Try.ntmps5
  go_wp2_with fail
  refine ((spec_PolarBest_c _ a0 a1 a2)).mono ?_
  rintro e w1 ⟨v1_0, rfl, ho1_0, hb1⟩
  have Bw1 : Below w.heap.size w w1 := hb1
  have zw1 := hb1.size
  obtain ⟨S1, k1, rfl, hp1⟩ := ho1_0.opn
  clear ho1_0
  have hi1 := Lib.hid (own_in hp1)
  go_wp2_with fail
  refine ((impl_PolarBest_c _ a0 a1 a2)).mono ?_
  rintro e w2 ⟨v2_0, rfl, ho2_0, hb2⟩
  have hp1 := own_below hp1 hb2 (Nat.le_refl _)
  have Bw2 : Below w.heap.size w w2 := Bw1.trans (hb2.mono Bw1.size)
  have zw2 := hb2.size
  obtain ⟨S2, k2, rfl, hp2⟩ := ho2_0.opn
  clear ho2_0
  have hi2 := Lib.hid (own_in hp2)
  go_wp2_with fail
  refine (calls_grow (eqInt64S_t _ S2 S1 _ k2 k1 _ _ (pbL a0 a1 a2) rfl (by have := pbL_len a0 a1 a2; omega) (sl_of_own hp2) (sl_of_own hp1))).mono ?_
  rintro e w3 ⟨rfl, hb3⟩
  have hp1 := own_below hp1 hb3 (Nat.le_refl _)
  have hp2 := own_below hp2 hb3 (Nat.le_refl _)
  have Bw3 : Below w.heap.size w w3 := Bw2.trans (hb3.mono Bw2.size)
  have zw3 := hb3.size
  go_wp2_with fail
  refine (markInt64S_c _ _ S2 (pbL a0 a1 a2).length k2 _ (by have := pbL_len a0 a1 a2; omega) (1) (by decide) (by decide) hp2).mono ?_
  rintro e w4 ⟨rfl, ho, hg4⟩
  have hp1 := own_apart hp1 hg4 hi1.out hi2.out (by omega)
  have hp2 := ho
  clear ho
  have Bw4 : Below w.heap.size w w4 := below_marked Bw3 hg4 hi2.out (by omega) (by omega)
  have zw4 := hg4.size
  have hk4 : (0 : Int) ≤ 1 + ((pbL a0 a1 a2).length : Nat) := by omega
  go_wp2_with fail
  refine (calls_grow (heldInt64S_c _ _ S2 (pbL a0 a1 a2).length k2 (by have := pbL_len a0 a1 a2; omega) (1) (by decide) (by decide) (sl_of_own hp2))).mono ?_
  rintro e w5 ⟨rfl, hb5⟩
  have hp1 := own_below hp1 hb5 (Nat.le_refl _)
  have hp2 := own_below hp2 hb5 (Nat.le_refl _)
  have Bw5 : Below w.heap.size w w5 := Bw4.trans (hb5.mono Bw4.size)
  have zw5 := hb5.size
  have hk5 : (0 : Int) ≤ 1 + ((pbL a0 a1 a2).length : Nat) := by omega
  go_wp2_with fail
  refine ((impl_PolarBest_c _ a0 a1 a2)).mono ?_
  rintro e w6 ⟨v3_0, rfl, ho3_0, hb6⟩
  have hp1 := own_below hp1 hb6 (Nat.le_refl _)
  have hp2 := own_below hp2 hb6 (Nat.le_refl _)
  have Bw6 : Below w.heap.size w w6 := Bw5.trans (hb6.mono Bw5.size)
  have zw6 := hb6.size
  obtain ⟨S3, k3, rfl, hp3⟩ := ho3_0.opn
  clear ho3_0
  have hi3 := Lib.hid (own_in hp3)
  go_wp2_with fail
  refine (calls_grow (eqInt64S_t _ S3 S1 _ k3 k1 _ _ (pbL a0 a1 a2) rfl (by have := pbL_len a0 a1 a2; omega) (sl_of_own hp3) (sl_of_own hp1))).mono ?_
  rintro e w7 ⟨rfl, hb7⟩
  have hp1 := own_below hp1 hb7 (Nat.le_refl _)
  have hp2 := own_below hp2 hb7 (Nat.le_refl _)
  have hp3 := own_below hp3 hb7 (Nat.le_refl _)
  have Bw7 : Below w.heap.size w w7 := Bw6.trans (hb7.mono Bw6.size)
  have zw7 := hb7.size
  go_wp2_with fail
  refine (calls_grow (heldInt64S_c _ _ S2 (pbL a0 a1 a2).length k2 (by have := pbL_len a0 a1 a2; omega) (1) (by decide) (by decide) (sl_of_own hp2))).mono ?_
  rintro e w8 ⟨rfl, hb8⟩
  have hp1 := own_below hp1 hb8 (Nat.le_refl _)
  have hp2 := own_below hp2 hb8 (Nat.le_refl _)
  have hp3 := own_below hp3 hb8 (Nat.le_refl _)
  have Bw8 : Below w.heap.size w w8 := Bw7.trans (hb8.mono Bw7.size)
  have zw8 := hb8.size
  have hk8 : (0 : Int) ≤ 1 + ((pbL a0 a1 a2).length : Nat) := by omega
  go_wp2
  go_ret
  exact ⟨rfl, Bw8⟩

end Go.Proofs.Ytlcdcicdlfakgaa
