/-
  FnExactPointsOf returns true for every input, and leaves its arguments as they were.
  Conditions: none beyond the given statement's own.
-/
import Derived.Test.YtiifpfiibbkobaaH
import Derived.Test.YtiifpfiibbkobaaPS
namespace Go.Proofs.Ytiifpfiibbkobaa
open Go.RowKit

set_option maxRecDepth 100000 in
set_option maxHeartbeats 1000000 in
theorem law_PointsOf (w : World) (A0 : Option Addr) (n0 cap0 : Nat) (x0 : List Bool) (hl0 : x0.length = n0) (hm0 : n0 ≤ maxLen) (hx0 : Sl w w.heap.size A0 (x0.map Value.bool)) :
    Calls Try.prog 3 #[.slice A0 n0 cap0] w fun e w' => e = .returned (.bool true) ∧ Below w.heap.size w w' := by
  unfold maxLen at hm0
  rcases Nat.lt_or_ge 1048576 n0 with hn0 | hn0
  · go_enter Try.func3, Try.ntmps3
    go_wp2
    go_ret
    exact ⟨rfl, Below.refl _ _⟩
  · skip
    go_enter Try.func3, Try.ntmps3
    go_wp2_with fail
    refine (toBoolS_c _ A0 n0 cap0 x0 hl0 hn0 hx0).mono ?_
    rintro e w1 ⟨v, rfl, ho1, hb1⟩
    have Bw1 : Below w.heap.size w w1 := hb1
    have zw1 := hb1.size
    obtain ⟨S1, k1, rfl, hp1⟩ := ho1.opn
    clear ho1
    rw [hl0] at hp1
    rw [hl0]
    have hi1 := Lib.hid (own_in hp1)
    go_wp2_with fail
    refine ((spec_PointsOf_c _ S1 n0 k1 x0 hl0 hn0 (sl_of_own hp1))).mono ?_
    rintro e w2 ⟨v2_0, rfl, ho2_0, hb2⟩
    have hp1 := own_below hp1 hb2 (Nat.le_refl _)
    have Bw2 : Below w.heap.size w w2 := Bw1.trans (hb2.mono Bw1.size)
    have zw2 := hb2.size
    obtain ⟨S2, k2, rfl, hp2⟩ := ho2_0.opn
    clear ho2_0
    have hi2 := Lib.hid (own_in hp2)
    go_wp2_with fail
    refine (toBoolS_c _ A0 n0 cap0 x0 hl0 hn0 ((hx0.below Bw2).more Bw2.size)).mono ?_
    rintro e w3 ⟨v, rfl, ho3, hb3⟩
    have hp1 := own_below hp1 hb3 (Nat.le_refl _)
    have hp2 := own_below hp2 hb3 (Nat.le_refl _)
    have Bw3 : Below w.heap.size w w3 := Bw2.trans (hb3.mono Bw2.size)
    have zw3 := hb3.size
    obtain ⟨S3, k3, rfl, hp3⟩ := ho3.opn
    clear ho3
    rw [hl0] at hp3
    rw [hl0]
    have hi3 := Lib.hid (own_in hp3)
    go_wp2_with fail
    refine ((impl_PointsOf_c _ S3 n0 k3 x0 hl0 hn0 (sl_of_own hp3))).mono ?_
    rintro e w4 ⟨v4_0, rfl, ho4_0, hb4⟩
    have hp1 := own_below hp1 hb4 (Nat.le_refl _)
    have hp2 := own_below hp2 hb4 (Nat.le_refl _)
    have hp3 := own_below hp3 hb4 (Nat.le_refl _)
    have Bw4 : Below w.heap.size w w4 := Bw3.trans (hb4.mono Bw3.size)
    have zw4 := hb4.size
    obtain ⟨S4, k4, rfl, hp4⟩ := ho4_0.opn
    clear ho4_0
    have hi4 := Lib.hid (own_in hp4)
    go_wp2_with fail
    refine (calls_grow (eqComplex64S_t _ S4 S2 _ k4 k2 _ _ (ptsB x0) rfl (by have := ptsB_len x0; omega) (sl_of_own hp4) (sl_of_own hp2))).mono ?_
    rintro e w5 ⟨rfl, hb5⟩
    have hp1 := own_below hp1 hb5 (Nat.le_refl _)
    have hp2 := own_below hp2 hb5 (Nat.le_refl _)
    have hp3 := own_below hp3 hb5 (Nat.le_refl _)
    have hp4 := own_below hp4 hb5 (Nat.le_refl _)
    have Bw5 : Below w.heap.size w w5 := Bw4.trans (hb5.mono Bw4.size)
    have zw5 := hb5.size
    go_wp2_with fail
    refine (toBoolS_c _ A0 n0 cap0 x0 hl0 hn0 ((hx0.below Bw5).more Bw5.size)).mono ?_
    rintro e w6 ⟨v, rfl, ho5, hb6⟩
    have hp1 := own_below hp1 hb6 (Nat.le_refl _)
    have hp2 := own_below hp2 hb6 (Nat.le_refl _)
    have hp3 := own_below hp3 hb6 (Nat.le_refl _)
    have hp4 := own_below hp4 hb6 (Nat.le_refl _)
    have Bw6 : Below w.heap.size w w6 := Bw5.trans (hb6.mono Bw5.size)
    have zw6 := hb6.size
    obtain ⟨S5, k5, rfl, hp5⟩ := ho5.opn
    clear ho5
    rw [hl0] at hp5
    rw [hl0]
    have hi5 := Lib.hid (own_in hp5)
    go_wp2_with fail
    refine (calls_grow (eqBoolS_t _ S3 S5 _ k3 k5 _ _ (x0) hl0 (by omega) (sl_of_own hp3) (sl_of_own hp5))).mono ?_
    rintro e w7 ⟨rfl, hb7⟩
    have hp1 := own_below hp1 hb7 (Nat.le_refl _)
    have hp2 := own_below hp2 hb7 (Nat.le_refl _)
    have hp3 := own_below hp3 hb7 (Nat.le_refl _)
    have hp4 := own_below hp4 hb7 (Nat.le_refl _)
    have hp5 := own_below hp5 hb7 (Nat.le_refl _)
    have Bw7 : Below w.heap.size w w7 := Bw6.trans (hb7.mono Bw6.size)
    have zw7 := hb7.size
    go_wp2_with fail
    refine (markBoolS_c _ _ S3 n0 k3 _ (by omega) (1) (by decide) (by decide) hp3).mono ?_
    rintro e w8 ⟨rfl, ho, hg8⟩
    have hp1 := own_apart hp1 hg8 hi1.out hi3.out (by omega)
    have hp2 := own_apart hp2 hg8 hi2.out hi3.out (by omega)
    have hp4 := own_apart hp4 hg8 hi4.out hi3.out (by omega)
    have hp5 := own_apart hp5 hg8 hi5.out hi3.out (by omega)
    have hp3 := ho
    clear ho
    have Bw8 : Below w.heap.size w w8 := below_marked Bw7 hg8 hi3.out (by omega) (by omega)
    have zw8 := hg8.size
    have hk8 : (0 : Int) ≤ 1 + (n0 : Nat) := by omega
    go_wp2_with fail
    refine (calls_grow (eqComplex64S_t _ S4 S2 _ k4 k2 _ _ (ptsB x0) rfl (by have := ptsB_len x0; omega) (sl_of_own hp4) (sl_of_own hp2))).mono ?_
    rintro e w9 ⟨rfl, hb9⟩
    have hp1 := own_below hp1 hb9 (Nat.le_refl _)
    have hp2 := own_below hp2 hb9 (Nat.le_refl _)
    have hp3 := own_below hp3 hb9 (Nat.le_refl _)
    have hp4 := own_below hp4 hb9 (Nat.le_refl _)
    have hp5 := own_below hp5 hb9 (Nat.le_refl _)
    have Bw9 : Below w.heap.size w w9 := Bw8.trans (hb9.mono Bw8.size)
    have zw9 := hb9.size
    go_wp2_with fail
    refine (markComplex64S_c _ _ S4 (ptsB x0).length k4 _ (by have := ptsB_len x0; omega) (1) (by decide) (by decide) hp4).mono ?_
    rintro e w10 ⟨rfl, ho, hg10⟩
    have hp1 := own_apart hp1 hg10 hi1.out hi4.out (by omega)
    have hp2 := own_apart hp2 hg10 hi2.out hi4.out (by omega)
    have hp3 := own_apart hp3 hg10 hi3.out hi4.out (by omega)
    have hp5 := own_apart hp5 hg10 hi5.out hi4.out (by omega)
    have hp4 := ho
    clear ho
    have Bw10 : Below w.heap.size w w10 := below_marked Bw9 hg10 hi4.out (by omega) (by omega)
    have zw10 := hg10.size
    have hk10 : (0 : Int) ≤ 1 + ((ptsB x0).length : Nat) := by omega
    go_wp2_with fail
    refine (calls_grow (heldComplex64S_c _ _ S4 (ptsB x0).length k4 (by have := ptsB_len x0; omega) (1) (by decide) (by decide) (sl_of_own hp4))).mono ?_
    rintro e w11 ⟨rfl, hb11⟩
    have hp1 := own_below hp1 hb11 (Nat.le_refl _)
    have hp2 := own_below hp2 hb11 (Nat.le_refl _)
    have hp3 := own_below hp3 hb11 (Nat.le_refl _)
    have hp4 := own_below hp4 hb11 (Nat.le_refl _)
    have hp5 := own_below hp5 hb11 (Nat.le_refl _)
    have Bw11 : Below w.heap.size w w11 := Bw10.trans (hb11.mono Bw10.size)
    have zw11 := hb11.size
    have hk11 : (0 : Int) ≤ 1 + ((ptsB x0).length : Nat) := by omega
    go_wp2_with fail
    refine (toBoolS_c _ A0 n0 cap0 x0 hl0 hn0 ((hx0.below Bw11).more Bw11.size)).mono ?_
    rintro e w12 ⟨v, rfl, ho6, hb12⟩
    have hp1 := own_below hp1 hb12 (Nat.le_refl _)
    have hp2 := own_below hp2 hb12 (Nat.le_refl _)
    have hp3 := own_below hp3 hb12 (Nat.le_refl _)
    have hp4 := own_below hp4 hb12 (Nat.le_refl _)
    have hp5 := own_below hp5 hb12 (Nat.le_refl _)
    have Bw12 : Below w.heap.size w w12 := Bw11.trans (hb12.mono Bw11.size)
    have zw12 := hb12.size
    obtain ⟨S6, k6, rfl, hp6⟩ := ho6.opn
    clear ho6
    rw [hl0] at hp6
    rw [hl0]
    have hi6 := Lib.hid (own_in hp6)
    go_wp2_with fail
    refine ((impl_PointsOf_c _ S6 n0 k6 x0 hl0 hn0 (sl_of_own hp6))).mono ?_
    rintro e w13 ⟨v7_0, rfl, ho7_0, hb13⟩
    have hp1 := own_below hp1 hb13 (Nat.le_refl _)
    have hp2 := own_below hp2 hb13 (Nat.le_refl _)
    have hp3 := own_below hp3 hb13 (Nat.le_refl _)
    have hp4 := own_below hp4 hb13 (Nat.le_refl _)
    have hp5 := own_below hp5 hb13 (Nat.le_refl _)
    have hp6 := own_below hp6 hb13 (Nat.le_refl _)
    have Bw13 : Below w.heap.size w w13 := Bw12.trans (hb13.mono Bw12.size)
    have zw13 := hb13.size
    obtain ⟨S7, k7, rfl, hp7⟩ := ho7_0.opn
    clear ho7_0
    have hi7 := Lib.hid (own_in hp7)
    go_wp2_with fail
    refine (calls_grow (eqComplex64S_t _ S7 S2 _ k7 k2 _ _ (ptsB x0) rfl (by have := ptsB_len x0; omega) (sl_of_own hp7) (sl_of_own hp2))).mono ?_
    rintro e w14 ⟨rfl, hb14⟩
    have hp1 := own_below hp1 hb14 (Nat.le_refl _)
    have hp2 := own_below hp2 hb14 (Nat.le_refl _)
    have hp3 := own_below hp3 hb14 (Nat.le_refl _)
    have hp4 := own_below hp4 hb14 (Nat.le_refl _)
    have hp5 := own_below hp5 hb14 (Nat.le_refl _)
    have hp6 := own_below hp6 hb14 (Nat.le_refl _)
    have hp7 := own_below hp7 hb14 (Nat.le_refl _)
    have Bw14 : Below w.heap.size w w14 := Bw13.trans (hb14.mono Bw13.size)
    have zw14 := hb14.size
    go_wp2_with fail
    refine (calls_grow (heldComplex64S_c _ _ S4 (ptsB x0).length k4 (by have := ptsB_len x0; omega) (1) (by decide) (by decide) (sl_of_own hp4))).mono ?_
    rintro e w15 ⟨rfl, hb15⟩
    have hp1 := own_below hp1 hb15 (Nat.le_refl _)
    have hp2 := own_below hp2 hb15 (Nat.le_refl _)
    have hp3 := own_below hp3 hb15 (Nat.le_refl _)
    have hp4 := own_below hp4 hb15 (Nat.le_refl _)
    have hp5 := own_below hp5 hb15 (Nat.le_refl _)
    have hp6 := own_below hp6 hb15 (Nat.le_refl _)
    have hp7 := own_below hp7 hb15 (Nat.le_refl _)
    have Bw15 : Below w.heap.size w w15 := Bw14.trans (hb15.mono Bw14.size)
    have zw15 := hb15.size
    have hk15 : (0 : Int) ≤ 1 + ((ptsB x0).length : Nat) := by omega
    go_wp2
    go_ret
    exact ⟨rfl, Bw15⟩

end Go.Proofs.Ytiifpfiibbkobaa
