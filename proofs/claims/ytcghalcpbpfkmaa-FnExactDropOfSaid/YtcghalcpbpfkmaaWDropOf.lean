/-
  FnExactDropOf returns true for every input, and leaves its arguments as they were.
  Conditions: none beyond the given statement's own.
-/
import Derived.Test.YtcghalcpbpfkmaaH
import Derived.Test.YtcghalcpbpfkmaaCD
namespace Go.Proofs.Ytcghalcpbpfkmaa
open Go.RowKit

set_option maxRecDepth 100000 in
set_option maxHeartbeats 1000000 in
theorem law_DropOf (w : World) (A0 : Option Addr) (n0 cap0 : Nat) (x0 : List Int) (a1 : Int) (hl0 : x0.length = n0) (hm0 : n0 ≤ maxLen) (hx0 : Sl w w.heap.size A0 (x0.map (Value.int .i64))) :
    Calls Try.prog 10 #[.slice A0 n0 cap0, .int .i64 a1] w fun e w' => e = .returned (.bool true) ∧ Below w.heap.size w w' := by
  unfold maxLen at hm0
  rcases Nat.lt_or_ge 1048576 n0 with hn0 | hn0
  · go_enter Try.func10, Try.ntmps10
    go_wp2
    go_ret
    exact ⟨rfl, Below.refl _ _⟩
  · skip
    go_enter Try.func10, Try.ntmps10
    go_wp2_with fail
    refine (toInt64S_c _ A0 n0 cap0 x0 hl0 hn0 hx0).mono ?_
    rintro e w1 ⟨v, rfl, ho1, hb1⟩
    have Bw1 : Below w.heap.size w w1 := hb1
    have zw1 := hb1.size
    obtain ⟨S1, k1, rfl, hp1⟩ := ho1.opn
    clear ho1
    rw [hl0] at hp1
    rw [hl0]
    have hi1 := Lib.hid (own_in hp1)
    go_wp2_with fail
    refine ((spec_DropOf_c _ S1 n0 k1 x0 hl0 hn0 (sl_of_own hp1) a1)).mono ?_
    rintro e w2 ⟨rfl, hb2⟩
    have hp1 := own_below hp1 hb2 (Nat.le_refl _)
    have Bw2 : Below w.heap.size w w2 := Bw1.trans (hb2.mono Bw1.size)
    have zw2 := hb2.size
    go_wp2_with fail
    refine (toInt64S_c _ A0 n0 cap0 x0 hl0 hn0 ((hx0.below Bw2).more Bw2.size)).mono ?_
    rintro e w3 ⟨v, rfl, ho3, hb3⟩
    have hp1 := own_below hp1 hb3 (Nat.le_refl _)
    have Bw3 : Below w.heap.size w w3 := Bw2.trans (hb3.mono Bw2.size)
    have zw3 := hb3.size
    obtain ⟨S2, k2, rfl, hp2⟩ := ho3.opn
    clear ho3
    rw [hl0] at hp2
    rw [hl0]
    have hi2 := Lib.hid (own_in hp2)
    go_wp2_with fail
    refine ((impl_DropOf_c _ S2 n0 k2 x0 hl0 hn0 (sl_of_own hp2) a1)).mono ?_
    rintro e w4 ⟨rfl, hb4⟩
    have hp1 := own_below hp1 hb4 (Nat.le_refl _)
    have hp2 := own_below hp2 hb4 (Nat.le_refl _)
    have Bw4 : Below w.heap.size w w4 := Bw3.trans (hb4.mono Bw3.size)
    have zw4 := hb4.size
    go_wp2_with fail
    refine (toInt64S_c _ A0 n0 cap0 x0 hl0 hn0 ((hx0.below Bw4).more Bw4.size)).mono ?_
    rintro e w5 ⟨v, rfl, ho5, hb5⟩
    have hp1 := own_below hp1 hb5 (Nat.le_refl _)
    have hp2 := own_below hp2 hb5 (Nat.le_refl _)
    have Bw5 : Below w.heap.size w w5 := Bw4.trans (hb5.mono Bw4.size)
    have zw5 := hb5.size
    obtain ⟨S3, k3, rfl, hp3⟩ := ho5.opn
    clear ho5
    rw [hl0] at hp3
    rw [hl0]
    have hi3 := Lib.hid (own_in hp3)
    go_wp2_with fail
    refine (calls_grow (eqInt64S_t _ S2 S3 _ k2 k3 _ _ (x0) hl0 (by omega) (sl_of_own hp2) (sl_of_own hp3))).mono ?_
    rintro e w6 ⟨rfl, hb6⟩
    have hp1 := own_below hp1 hb6 (Nat.le_refl _)
    have hp2 := own_below hp2 hb6 (Nat.le_refl _)
    have hp3 := own_below hp3 hb6 (Nat.le_refl _)
    have Bw6 : Below w.heap.size w w6 := Bw5.trans (hb6.mono Bw5.size)
    have zw6 := hb6.size
    go_wp2
    go_ret
    exact ⟨rfl, Bw6⟩

end Go.Proofs.Ytcghalcpbpfkmaa
