/-
  FnExactPeelDrops returns true for every input, and leaves its arguments as they were.
  Conditions: none beyond the given statement's own.
-/
import Derived.Test.YtpdblaldndmdoaaH
import Derived.Test.YtpdblaldndmdoaaPE
namespace Go.Proofs.Ytpdblaldndmdoaa
open Go.RowKit

set_option maxRecDepth 100000 in
set_option maxHeartbeats 1000000 in
theorem law_PeelDrops (w : World) (a0 : Int) (A1 : Option Addr) (n1 cap1 : Nat) (x1 : List Int) (A2 : Option Addr) (n2 cap2 : Nat) (x2 : List Int) (hl1 : x1.length = n1) (hm1 : n1 ≤ maxLen) (hx1 : Sl w w.heap.size A1 (x1.map (Value.int .i64))) (hl2 : x2.length = n2) (hm2 : n2 ≤ maxLen) (hx2 : Sl w w.heap.size A2 (x2.map (Value.int .i64))) :
    Calls Try.prog 8 #[.int .i64 a0, .slice A1 n1 cap1, .slice A2 n2 cap2] w fun e w' => e = .returned (.bool true) ∧ Below w.heap.size w w' := by
  unfold maxLen at hm1
  unfold maxLen at hm2
  rcases Nat.lt_or_ge 1048576 n1 with hn1 | hn1
  · go_enter Try.func8, Try.ntmps8
    go_wp2
    go_ret
    exact ⟨rfl, Below.refl _ _⟩
  rcases Nat.lt_or_ge 1048576 n2 with hn2 | hn2
  · go_enter Try.func8, Try.ntmps8
    go_wp2
    go_ret
    exact ⟨rfl, Below.refl _ _⟩
  · skip
    go_enter Try.func8, Try.ntmps8
    go_wp2_with fail
    refine (toInt64S_c _ A1 n1 cap1 x1 hl1 hn1 hx1).mono ?_
    rintro e w1 ⟨v, rfl, ho1, hb1⟩
    have Bw1 : Below w.heap.size w w1 := hb1
    have zw1 := hb1.size
    obtain ⟨S1, k1, rfl, hp1⟩ := ho1.opn
    clear ho1
    rw [hl1] at hp1
    rw [hl1]
    have hi1 := Lib.hid (own_in hp1)
    go_wp2_with fail
    refine (toInt64S_c _ A2 n2 cap2 x2 hl2 hn2 ((hx2.below Bw1).more Bw1.size)).mono ?_
    rintro e w2 ⟨v, rfl, ho2, hb2⟩
    have hp1 := own_below hp1 hb2 (Nat.le_refl _)
    have Bw2 : Below w.heap.size w w2 := Bw1.trans (hb2.mono Bw1.size)
    have zw2 := hb2.size
    obtain ⟨S2, k2, rfl, hp2⟩ := ho2.opn
    clear ho2
    rw [hl2] at hp2
    rw [hl2]
    have hi2 := Lib.hid (own_in hp2)
    go_wp2_with fail
    refine ((spec_PeelDrops_c _ a0 S1 n1 k1 x1 hl1 hn1 (sl_of_own hp1) S2 n2 k2 x2 hl2 hn2 (sl_of_own hp2))).mono ?_
    rintro e w3 ⟨v3_0, rfl, ho3_0, hb3⟩
    have hp1 := own_below hp1 hb3 (Nat.le_refl _)
    have hp2 := own_below hp2 hb3 (Nat.le_refl _)
    have Bw3 : Below w.heap.size w w3 := Bw2.trans (hb3.mono Bw2.size)
    have zw3 := hb3.size
    obtain ⟨S3, k3, rfl, hp3⟩ := ho3_0.opn
    clear ho3_0
    have hi3 := Lib.hid (own_in hp3)
    go_wp2_with fail
    refine (toInt64S_c _ A1 n1 cap1 x1 hl1 hn1 ((hx1.below Bw3).more Bw3.size)).mono ?_
    rintro e w4 ⟨v, rfl, ho4, hb4⟩
    have hp1 := own_below hp1 hb4 (Nat.le_refl _)
    have hp2 := own_below hp2 hb4 (Nat.le_refl _)
    have hp3 := own_below hp3 hb4 (Nat.le_refl _)
    have Bw4 : Below w.heap.size w w4 := Bw3.trans (hb4.mono Bw3.size)
    have zw4 := hb4.size
    obtain ⟨S4, k4, rfl, hp4⟩ := ho4.opn
    clear ho4
    rw [hl1] at hp4
    rw [hl1]
    have hi4 := Lib.hid (own_in hp4)
    go_wp2_with fail
    refine (toInt64S_c _ A2 n2 cap2 x2 hl2 hn2 ((hx2.below Bw4).more Bw4.size)).mono ?_
    rintro e w5 ⟨v, rfl, ho5, hb5⟩
    have hp1 := own_below hp1 hb5 (Nat.le_refl _)
    have hp2 := own_below hp2 hb5 (Nat.le_refl _)
    have hp3 := own_below hp3 hb5 (Nat.le_refl _)
    have hp4 := own_below hp4 hb5 (Nat.le_refl _)
    have Bw5 : Below w.heap.size w w5 := Bw4.trans (hb5.mono Bw4.size)
    have zw5 := hb5.size
    obtain ⟨S5, k5, rfl, hp5⟩ := ho5.opn
    clear ho5
    rw [hl2] at hp5
    rw [hl2]
    have hi5 := Lib.hid (own_in hp5)
    go_wp2_with fail
    refine ((impl_PeelDrops_c _ a0 S4 n1 k4 x1 hl1 hn1 (sl_of_own hp4) S5 n2 k5 x2 hl2 hn2 (sl_of_own hp5))).mono ?_
    rintro e w6 ⟨v6_0, rfl, ho6_0, hb6⟩
    have hp1 := own_below hp1 hb6 (Nat.le_refl _)
    have hp2 := own_below hp2 hb6 (Nat.le_refl _)
    have hp3 := own_below hp3 hb6 (Nat.le_refl _)
    have hp4 := own_below hp4 hb6 (Nat.le_refl _)
    have hp5 := own_below hp5 hb6 (Nat.le_refl _)
    have Bw6 : Below w.heap.size w w6 := Bw5.trans (hb6.mono Bw5.size)
    have zw6 := hb6.size
    obtain ⟨S6, k6, rfl, hp6⟩ := ho6_0.opn
    clear ho6_0
    have hi6 := Lib.hid (own_in hp6)
    go_wp2_with fail
    refine (calls_grow (eqInt64S_t _ S6 S3 _ k6 k3 _ _ (peelL a0 x1 x2) rfl (by have := peelL_len a0 x1 x2; omega) (sl_of_own hp6) (sl_of_own hp3))).mono ?_
    rintro e w7 ⟨rfl, hb7⟩
    have hp1 := own_below hp1 hb7 (Nat.le_refl _)
    have hp2 := own_below hp2 hb7 (Nat.le_refl _)
    have hp3 := own_below hp3 hb7 (Nat.le_refl _)
    have hp4 := own_below hp4 hb7 (Nat.le_refl _)
    have hp5 := own_below hp5 hb7 (Nat.le_refl _)
    have hp6 := own_below hp6 hb7 (Nat.le_refl _)
    have Bw7 : Below w.heap.size w w7 := Bw6.trans (hb7.mono Bw6.size)
    have zw7 := hb7.size
    go_wp2_with fail
    refine (toInt64S_c _ A1 n1 cap1 x1 hl1 hn1 ((hx1.below Bw7).more Bw7.size)).mono ?_
    rintro e w8 ⟨v, rfl, ho7, hb8⟩
    have hp1 := own_below hp1 hb8 (Nat.le_refl _)
    have hp2 := own_below hp2 hb8 (Nat.le_refl _)
    have hp3 := own_below hp3 hb8 (Nat.le_refl _)
    have hp4 := own_below hp4 hb8 (Nat.le_refl _)
    have hp5 := own_below hp5 hb8 (Nat.le_refl _)
    have hp6 := own_below hp6 hb8 (Nat.le_refl _)
    have Bw8 : Below w.heap.size w w8 := Bw7.trans (hb8.mono Bw7.size)
    have zw8 := hb8.size
    obtain ⟨S7, k7, rfl, hp7⟩ := ho7.opn
    clear ho7
    rw [hl1] at hp7
    rw [hl1]
    have hi7 := Lib.hid (own_in hp7)
    go_wp2_with fail
    refine (calls_grow (eqInt64S_t _ S4 S7 _ k4 k7 _ _ (x1) hl1 (by omega) (sl_of_own hp4) (sl_of_own hp7))).mono ?_
    rintro e w9 ⟨rfl, hb9⟩
    have hp1 := own_below hp1 hb9 (Nat.le_refl _)
    have hp2 := own_below hp2 hb9 (Nat.le_refl _)
    have hp3 := own_below hp3 hb9 (Nat.le_refl _)
    have hp4 := own_below hp4 hb9 (Nat.le_refl _)
    have hp5 := own_below hp5 hb9 (Nat.le_refl _)
    have hp6 := own_below hp6 hb9 (Nat.le_refl _)
    have hp7 := own_below hp7 hb9 (Nat.le_refl _)
    have Bw9 : Below w.heap.size w w9 := Bw8.trans (hb9.mono Bw8.size)
    have zw9 := hb9.size
    go_wp2_with fail
    refine (toInt64S_c _ A2 n2 cap2 x2 hl2 hn2 ((hx2.below Bw9).more Bw9.size)).mono ?_
    rintro e w10 ⟨v, rfl, ho8, hb10⟩
    have hp1 := own_below hp1 hb10 (Nat.le_refl _)
    have hp2 := own_below hp2 hb10 (Nat.le_refl _)
    have hp3 := own_below hp3 hb10 (Nat.le_refl _)
    have hp4 := own_below hp4 hb10 (Nat.le_refl _)
    have hp5 := own_below hp5 hb10 (Nat.le_refl _)
    have hp6 := own_below hp6 hb10 (Nat.le_refl _)
    have hp7 := own_below hp7 hb10 (Nat.le_refl _)
    have Bw10 : Below w.heap.size w w10 := Bw9.trans (hb10.mono Bw9.size)
    have zw10 := hb10.size
    obtain ⟨S8, k8, rfl, hp8⟩ := ho8.opn
    clear ho8
    rw [hl2] at hp8
    rw [hl2]
    have hi8 := Lib.hid (own_in hp8)
    go_wp2_with fail
    refine (calls_grow (eqInt64S_t _ S5 S8 _ k5 k8 _ _ (x2) hl2 (by omega) (sl_of_own hp5) (sl_of_own hp8))).mono ?_
    rintro e w11 ⟨rfl, hb11⟩
    have hp1 := own_below hp1 hb11 (Nat.le_refl _)
    have hp2 := own_below hp2 hb11 (Nat.le_refl _)
    have hp3 := own_below hp3 hb11 (Nat.le_refl _)
    have hp4 := own_below hp4 hb11 (Nat.le_refl _)
    have hp5 := own_below hp5 hb11 (Nat.le_refl _)
    have hp6 := own_below hp6 hb11 (Nat.le_refl _)
    have hp7 := own_below hp7 hb11 (Nat.le_refl _)
    have hp8 := own_below hp8 hb11 (Nat.le_refl _)
    have Bw11 : Below w.heap.size w w11 := Bw10.trans (hb11.mono Bw10.size)
    have zw11 := hb11.size
    go_wp2_with fail
    refine (markInt64S_c _ _ S4 n1 k4 _ (by omega) (1) (by decide) (by decide) hp4).mono ?_
    rintro e w12 ⟨rfl, ho, hg12⟩
    have hp1 := own_apart hp1 hg12 hi1.out hi4.out (by omega)
    have hp2 := own_apart hp2 hg12 hi2.out hi4.out (by omega)
    have hp3 := own_apart hp3 hg12 hi3.out hi4.out (by omega)
    have hp5 := own_apart hp5 hg12 hi5.out hi4.out (by omega)
    have hp6 := own_apart hp6 hg12 hi6.out hi4.out (by omega)
    have hp7 := own_apart hp7 hg12 hi7.out hi4.out (by omega)
    have hp8 := own_apart hp8 hg12 hi8.out hi4.out (by omega)
    have hp4 := ho
    clear ho
    have Bw12 : Below w.heap.size w w12 := below_marked Bw11 hg12 hi4.out (by omega) (by omega)
    have zw12 := hg12.size
    have hk12 : (0 : Int) ≤ 1 + (n1 : Nat) := by omega
    go_wp2_with fail
    refine (markInt64S_c _ _ S5 n2 k5 _ (by omega) (1 + (n1 : Nat)) (by omega) (by omega) hp5).mono ?_
    rintro e w13 ⟨rfl, ho, hg13⟩
    have hp1 := own_apart hp1 hg13 hi1.out hi5.out (by omega)
    have hp2 := own_apart hp2 hg13 hi2.out hi5.out (by omega)
    have hp3 := own_apart hp3 hg13 hi3.out hi5.out (by omega)
    have hp4 := own_apart hp4 hg13 hi4.out hi5.out (by omega)
    have hp6 := own_apart hp6 hg13 hi6.out hi5.out (by omega)
    have hp7 := own_apart hp7 hg13 hi7.out hi5.out (by omega)
    have hp8 := own_apart hp8 hg13 hi8.out hi5.out (by omega)
    have hp5 := ho
    clear ho
    have Bw13 : Below w.heap.size w w13 := below_marked Bw12 hg13 hi5.out (by omega) (by omega)
    have zw13 := hg13.size
    have hk13 : (0 : Int) ≤ 1 + (n1 : Nat) + (n2 : Nat) := by omega
    go_wp2_with fail
    refine (calls_grow (eqInt64S_t _ S6 S3 _ k6 k3 _ _ (peelL a0 x1 x2) rfl (by have := peelL_len a0 x1 x2; omega) (sl_of_own hp6) (sl_of_own hp3))).mono ?_
    rintro e w14 ⟨rfl, hb14⟩
    have hp1 := own_below hp1 hb14 (Nat.le_refl _)
    have hp2 := own_below hp2 hb14 (Nat.le_refl _)
    have hp3 := own_below hp3 hb14 (Nat.le_refl _)
    have hp4 := own_below hp4 hb14 (Nat.le_refl _)
    have hp5 := own_below hp5 hb14 (Nat.le_refl _)
    have hp6 := own_below hp6 hb14 (Nat.le_refl _)
    have hp7 := own_below hp7 hb14 (Nat.le_refl _)
    have hp8 := own_below hp8 hb14 (Nat.le_refl _)
    have Bw14 : Below w.heap.size w w14 := Bw13.trans (hb14.mono Bw13.size)
    have zw14 := hb14.size
    go_wp2_with fail
    refine (markInt64S_c _ _ S6 (peelL a0 x1 x2).length k6 _ (by have := peelL_len a0 x1 x2; omega) (1) (by decide) (by decide) hp6).mono ?_
    rintro e w15 ⟨rfl, ho, hg15⟩
    have hp1 := own_apart hp1 hg15 hi1.out hi6.out (by omega)
    have hp2 := own_apart hp2 hg15 hi2.out hi6.out (by omega)
    have hp3 := own_apart hp3 hg15 hi3.out hi6.out (by omega)
    have hp4 := own_apart hp4 hg15 hi4.out hi6.out (by omega)
    have hp5 := own_apart hp5 hg15 hi5.out hi6.out (by omega)
    have hp7 := own_apart hp7 hg15 hi7.out hi6.out (by omega)
    have hp8 := own_apart hp8 hg15 hi8.out hi6.out (by omega)
    have hp6 := ho
    clear ho
    have Bw15 : Below w.heap.size w w15 := below_marked Bw14 hg15 hi6.out (by omega) (by omega)
    have zw15 := hg15.size
    have hk15 : (0 : Int) ≤ 1 + ((peelL a0 x1 x2).length : Nat) := by omega
    go_wp2_with fail
    refine (calls_grow (heldInt64S_c _ _ S6 (peelL a0 x1 x2).length k6 (by have := peelL_len a0 x1 x2; omega) (1) (by decide) (by decide) (sl_of_own hp6))).mono ?_
    rintro e w16 ⟨rfl, hb16⟩
    have hp1 := own_below hp1 hb16 (Nat.le_refl _)
    have hp2 := own_below hp2 hb16 (Nat.le_refl _)
    have hp3 := own_below hp3 hb16 (Nat.le_refl _)
    have hp4 := own_below hp4 hb16 (Nat.le_refl _)
    have hp5 := own_below hp5 hb16 (Nat.le_refl _)
    have hp6 := own_below hp6 hb16 (Nat.le_refl _)
    have hp7 := own_below hp7 hb16 (Nat.le_refl _)
    have hp8 := own_below hp8 hb16 (Nat.le_refl _)
    have Bw16 : Below w.heap.size w w16 := Bw15.trans (hb16.mono Bw15.size)
    have zw16 := hb16.size
    have hk16 : (0 : Int) ≤ 1 + ((peelL a0 x1 x2).length : Nat) := by omega
    go_wp2_with fail
    refine (toInt64S_c _ A1 n1 cap1 x1 hl1 hn1 ((hx1.below Bw16).more Bw16.size)).mono ?_
    rintro e w17 ⟨v, rfl, ho9, hb17⟩
    have hp1 := own_below hp1 hb17 (Nat.le_refl _)
    have hp2 := own_below hp2 hb17 (Nat.le_refl _)
    have hp3 := own_below hp3 hb17 (Nat.le_refl _)
    have hp4 := own_below hp4 hb17 (Nat.le_refl _)
    have hp5 := own_below hp5 hb17 (Nat.le_refl _)
    have hp6 := own_below hp6 hb17 (Nat.le_refl _)
    have hp7 := own_below hp7 hb17 (Nat.le_refl _)
    have hp8 := own_below hp8 hb17 (Nat.le_refl _)
    have Bw17 : Below w.heap.size w w17 := Bw16.trans (hb17.mono Bw16.size)
    have zw17 := hb17.size
    obtain ⟨S9, k9, rfl, hp9⟩ := ho9.opn
    clear ho9
    rw [hl1] at hp9
    rw [hl1]
    have hi9 := Lib.hid (own_in hp9)
    go_wp2_with fail
    refine (toInt64S_c _ A2 n2 cap2 x2 hl2 hn2 ((hx2.below Bw17).more Bw17.size)).mono ?_
    rintro e w18 ⟨v, rfl, ho10, hb18⟩
    have hp1 := own_below hp1 hb18 (Nat.le_refl _)
    have hp2 := own_below hp2 hb18 (Nat.le_refl _)
    have hp3 := own_below hp3 hb18 (Nat.le_refl _)
    have hp4 := own_below hp4 hb18 (Nat.le_refl _)
    have hp5 := own_below hp5 hb18 (Nat.le_refl _)
    have hp6 := own_below hp6 hb18 (Nat.le_refl _)
    have hp7 := own_below hp7 hb18 (Nat.le_refl _)
    have hp8 := own_below hp8 hb18 (Nat.le_refl _)
    have hp9 := own_below hp9 hb18 (Nat.le_refl _)
    have Bw18 : Below w.heap.size w w18 := Bw17.trans (hb18.mono Bw17.size)
    have zw18 := hb18.size
    obtain ⟨S10, k10, rfl, hp10⟩ := ho10.opn
    clear ho10
    rw [hl2] at hp10
    rw [hl2]
    have hi10 := Lib.hid (own_in hp10)
    go_wp2_with fail
    refine ((impl_PeelDrops_c _ a0 S9 n1 k9 x1 hl1 hn1 (sl_of_own hp9) S10 n2 k10 x2 hl2 hn2 (sl_of_own hp10))).mono ?_
    rintro e w19 ⟨v11_0, rfl, ho11_0, hb19⟩
    have hp1 := own_below hp1 hb19 (Nat.le_refl _)
    have hp2 := own_below hp2 hb19 (Nat.le_refl _)
    have hp3 := own_below hp3 hb19 (Nat.le_refl _)
    have hp4 := own_below hp4 hb19 (Nat.le_refl _)
    have hp5 := own_below hp5 hb19 (Nat.le_refl _)
    have hp6 := own_below hp6 hb19 (Nat.le_refl _)
    have hp7 := own_below hp7 hb19 (Nat.le_refl _)
    have hp8 := own_below hp8 hb19 (Nat.le_refl _)
    have hp9 := own_below hp9 hb19 (Nat.le_refl _)
    have hp10 := own_below hp10 hb19 (Nat.le_refl _)
    have Bw19 : Below w.heap.size w w19 := Bw18.trans (hb19.mono Bw18.size)
    have zw19 := hb19.size
    obtain ⟨S11, k11, rfl, hp11⟩ := ho11_0.opn
    clear ho11_0
    have hi11 := Lib.hid (own_in hp11)
    go_wp2_with fail
    refine (calls_grow (eqInt64S_t _ S11 S3 _ k11 k3 _ _ (peelL a0 x1 x2) rfl (by have := peelL_len a0 x1 x2; omega) (sl_of_own hp11) (sl_of_own hp3))).mono ?_
    rintro e w20 ⟨rfl, hb20⟩
    have hp1 := own_below hp1 hb20 (Nat.le_refl _)
    have hp2 := own_below hp2 hb20 (Nat.le_refl _)
    have hp3 := own_below hp3 hb20 (Nat.le_refl _)
    have hp4 := own_below hp4 hb20 (Nat.le_refl _)
    have hp5 := own_below hp5 hb20 (Nat.le_refl _)
    have hp6 := own_below hp6 hb20 (Nat.le_refl _)
    have hp7 := own_below hp7 hb20 (Nat.le_refl _)
    have hp8 := own_below hp8 hb20 (Nat.le_refl _)
    have hp9 := own_below hp9 hb20 (Nat.le_refl _)
    have hp10 := own_below hp10 hb20 (Nat.le_refl _)
    have hp11 := own_below hp11 hb20 (Nat.le_refl _)
    have Bw20 : Below w.heap.size w w20 := Bw19.trans (hb20.mono Bw19.size)
    have zw20 := hb20.size
    go_wp2_with fail
    refine (calls_grow (heldInt64S_c _ _ S6 (peelL a0 x1 x2).length k6 (by have := peelL_len a0 x1 x2; omega) (1) (by decide) (by decide) (sl_of_own hp6))).mono ?_
    rintro e w21 ⟨rfl, hb21⟩
    have hp1 := own_below hp1 hb21 (Nat.le_refl _)
    have hp2 := own_below hp2 hb21 (Nat.le_refl _)
    have hp3 := own_below hp3 hb21 (Nat.le_refl _)
    have hp4 := own_below hp4 hb21 (Nat.le_refl _)
    have hp5 := own_below hp5 hb21 (Nat.le_refl _)
    have hp6 := own_below hp6 hb21 (Nat.le_refl _)
    have hp7 := own_below hp7 hb21 (Nat.le_refl _)
    have hp8 := own_below hp8 hb21 (Nat.le_refl _)
    have hp9 := own_below hp9 hb21 (Nat.le_refl _)
    have hp10 := own_below hp10 hb21 (Nat.le_refl _)
    have hp11 := own_below hp11 hb21 (Nat.le_refl _)
    have Bw21 : Below w.heap.size w w21 := Bw20.trans (hb21.mono Bw20.size)
    have zw21 := hb21.size
    have hk21 : (0 : Int) ≤ 1 + ((peelL a0 x1 x2).length : Nat) := by omega
    go_wp2
    go_ret
    exact ⟨rfl, Bw21⟩

end Go.Proofs.Ytpdblaldndmdoaa
