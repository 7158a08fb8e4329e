/-
  FnExactAllWays returns true for every input, and leaves its arguments as they were.
  Conditions: none beyond the given statement's own.
-/
import Derived.Test.YtopeidmafalklaaH
import Derived.Deep.RegionHeld3
import Derived.Test.YtopeidmafalklaaYP
namespace Go.Proofs.Ytopeidmafalklaa
open Go.RowKit

set_option maxRecDepth 100000 in
set_option maxHeartbeats 4000000 in
theorem law_AllWays (w : World) (a0 : Int) (A1 : Option Addr) (n1 cap1 : Nat) (x1 : List Int) (A2 : Option Addr) (n2 cap2 : Nat) (x2 : List Nat) (hl1 : x1.length = n1) (hm1 : n1 ≤ maxLen) (hx1 : Sl w w.heap.size A1 (x1.map (Value.int .i64))) (hl2 : x2.length = n2) (hm2 : n2 ≤ maxLen) (hx2 : Sl w w.heap.size A2 (x2.map (Value.float .f32))) :
    Calls Try.prog 3 #[.agg #[.int .i64 a0, .slice A1 n1 cap1], .slice A2 n2 cap2] w fun e w' => e = .returned (.bool true) ∧ Below w.heap.size w w' := by
  unfold maxLen at hm1
  unfold maxLen at hm2
  rcases Nat.lt_or_ge 1048576 n2 with hn2 | hn2
  · go_enter Try.func3, Try.ntmps3
    go_wp2
    go_ret
    first | exact ⟨rfl, Below.refl _ _⟩ | exact ⟨rfl, (Below.refl _ _).alloc (Nat.le_refl _) _⟩
  have hq : ∀ b : Bool, (b == b) = true := fun b => by simp
  have hlb := allR_len a0 x1 x2
  go_enter Try.func3, Try.ntmps3
  go_wp2_with fail
  obtain ⟨w1, ew1⟩ : ∃ q : World, q = (w.alloc (.cells #[.int .i64 a0, .slice A1 n1 cap1] 24)) := ⟨_, rfl⟩
  rw [← ew1]
  have Bw1 : Below w.heap.size w w1 := by rw [ew1]; exact ((Below.refl _ _).alloc (Nat.le_refl _) _)
  have zw1 : w1.heap.size = w.heap.size + 1 := by rw [ew1]; simp
  have c1 : w1.cell? ⟨w.heap.size, 0, none⟩ = some (.int .i64 a0) := by rw [ew1]; (first | (simp; done) | (simp (disch := (first | (simp; done) | (simp; omega))) [World.cell?_alloc_at]; done) | (simp (disch := (first | (simp; done) | (simp; omega))) [World.cell?_alloc_past]; done) | (simp (disch := (first | (simp; done) | (simp; omega))) [World.cell?_alloc_at, World.cell?_alloc_past]; done) | (simp (disch := (first | (simp; done) | (simp; omega))) [World.frozen?_alloc_at]; done) | (simp (disch := (first | (simp; done) | (simp; omega))) [World.frozen?_alloc_past]; done) | (simp (disch := (first | (simp; done) | (simp; omega))) [World.frozen?_alloc_at, World.frozen?_alloc_past]; done))
  have c2 : w1.cell? ⟨w.heap.size, 1, none⟩ = some (.slice A1 n1 cap1) := by rw [ew1]; (first | (simp; done) | (simp (disch := (first | (simp; done) | (simp; omega))) [World.cell?_alloc_at]; done) | (simp (disch := (first | (simp; done) | (simp; omega))) [World.cell?_alloc_past]; done) | (simp (disch := (first | (simp; done) | (simp; omega))) [World.cell?_alloc_at, World.cell?_alloc_past]; done) | (simp (disch := (first | (simp; done) | (simp; omega))) [World.frozen?_alloc_at]; done) | (simp (disch := (first | (simp; done) | (simp; omega))) [World.frozen?_alloc_past]; done) | (simp (disch := (first | (simp; done) | (simp; omega))) [World.frozen?_alloc_at, World.frozen?_alloc_past]; done))
  clear ew1
  go_wp2_with fail
  refine (szCoder_c w1 a0 A1 n1 cap1 1048576 (by omega) (by omega) (by omega)).mono ?_
  rintro e w2 ⟨rfl, hb2⟩
  have c3 := (hb2.cell (p := ⟨w.heap.size, 0, none⟩) (by simp only []; omega)).trans c1
  clear c1
  have c4 := (hb2.cell (p := ⟨w.heap.size, 1, none⟩) (by simp only []; omega)).trans c2
  clear c2
  have Bw2 : Below w.heap.size w w2 := Bw1.trans (hb2.mono Bw1.size)
  have zw2 := hb2.size
  have sq2 := szr_bd (left := 1048576) (by omega) (by omega) n1
  obtain ⟨q2, hq2⟩ : ∃ q, szr 1048576 n1 = q := ⟨_, rfl⟩
  rw [hq2] at sq2 ⊢
  clear hq2
  rcases sq2 with ⟨sq2, rfl⟩ | ⟨sq2, sq21, sq22⟩
  · go_wp2
    go_ret
    exact ⟨rfl, Bw2⟩
  have hn1 : n1 ≤ 1048576 := by omega
  go_wp2_with fail
  refine (toCoder_c w2 a0 A1 n1 cap1 x1 hl1 hn1 (((hx1).below Bw2).more Bw2.size)).mono ?_
  rintro e w3 ⟨v1, rfl, ho3_1, hb3⟩
  have c5 := (hb3.cell (p := ⟨w.heap.size, 0, none⟩) (by simp only []; omega)).trans c3
  clear c3
  have c6 := (hb3.cell (p := ⟨w.heap.size, 1, none⟩) (by simp only []; omega)).trans c4
  clear c4
  have Bw3 : Below w.heap.size w w3 := Bw2.trans (hb3.mono Bw2.size)
  have zw3 := hb3.size
  obtain ⟨S1, k1, rfl, hp1⟩ := ho3_1.opn
  rw [hl1] at hp1 ⊢
  clear ho3_1
  have hi1 := Lib.hid (own_in hp1)
  go_wp2_with fail
  refine (toFloat32S_c w3 A2 n2 cap2 x2 hl2 hn2 (((hx2).below Bw3).more Bw3.size)).mono ?_
  rintro e w4 ⟨v, rfl, ho4, hb4⟩
  have hp1 := own_below hp1 hb4 (Nat.le_refl _)
  have c7 := (hb4.cell (p := ⟨w.heap.size, 0, none⟩) (by simp only []; omega)).trans c5
  clear c5
  have c8 := (hb4.cell (p := ⟨w.heap.size, 1, none⟩) (by simp only []; omega)).trans c6
  clear c6
  have Bw4 : Below w.heap.size w w4 := Bw3.trans (hb4.mono Bw3.size)
  have zw4 := hb4.size
  obtain ⟨S2, k2, rfl, hp2⟩ := ho4.opn
  rw [hl2] at hp2 ⊢
  clear ho4
  have hi2 := Lib.hid (own_in hp2)
  go_wp2_with fail
  refine (spec_AllWays_r w4 a0 S1 n1 k1 x1 hl1 hn1 (sl_of_own hp1) S2 n2 k2 x2 hl2 hn2 (sl_of_own hp2) (rowA_of hp2)).mono ?_
  rintro e w5 ⟨v0, rfl, ho5_0, hb5⟩
  have hp1 := own_below hp1 hb5 (Nat.le_refl _)
  have hp2 := own_below hp2 hb5 (Nat.le_refl _)
  have c9 := (hb5.cell (p := ⟨w.heap.size, 0, none⟩) (by simp only []; omega)).trans c7
  clear c7
  have c10 := (hb5.cell (p := ⟨w.heap.size, 1, none⟩) (by simp only []; omega)).trans c8
  clear c8
  have Bw5 : Below w.heap.size w w5 := Bw4.trans (hb5.mono Bw4.size)
  have zw5 := hb5.size
  obtain ⟨S3, k3, rfl, hp3⟩ := ho5_0.opn
  clear ho5_0
  have hi3 := Lib.hid (own_in hp3)
  go_wp2_with fail
  refine (toCoder_c w5 a0 A1 n1 cap1 x1 hl1 hn1 (((hx1).below Bw5).more Bw5.size)).mono ?_
  rintro e w6 ⟨v1, rfl, ho6_1, hb6⟩
  have hp1 := own_below hp1 hb6 (Nat.le_refl _)
  have hp2 := own_below hp2 hb6 (Nat.le_refl _)
  have hp3 := own_below hp3 hb6 (Nat.le_refl _)
  have c11 := (hb6.cell (p := ⟨w.heap.size, 0, none⟩) (by simp only []; omega)).trans c9
  clear c9
  have c12 := (hb6.cell (p := ⟨w.heap.size, 1, none⟩) (by simp only []; omega)).trans c10
  clear c10
  have Bw6 : Below w.heap.size w w6 := Bw5.trans (hb6.mono Bw5.size)
  have zw6 := hb6.size
  obtain ⟨S4, k4, rfl, hp4⟩ := ho6_1.opn
  rw [hl1] at hp4 ⊢
  clear ho6_1
  have hi4 := Lib.hid (own_in hp4)
  have l6_12 : w.heap.size < w6.heap.size := by omega
  go_wp2_with fail
  obtain ⟨w7, ew7⟩ : ∃ q : World, q = w6.alloc (.cells #[.int .i64 a0, .slice S4 n1 k4] 29) := ⟨_, rfl⟩
  rw [← ew7]
  have hb7 : Below w6.heap.size w6 w7 := by rw [ew7]; exact (Below.refl _ _).alloc (Nat.le_refl _) _
  have c14 : w7.cell? ⟨w6.heap.size, 0, none⟩ = some (.int .i64 a0) := by rw [ew7]; (first | (simp; done) | (simp (disch := (first | (simp; done) | (simp; omega))) [World.cell?_alloc_at]; done) | (simp (disch := (first | (simp; done) | (simp; omega))) [World.cell?_alloc_past]; done) | (simp (disch := (first | (simp; done) | (simp; omega))) [World.cell?_alloc_at, World.cell?_alloc_past]; done) | (simp (disch := (first | (simp; done) | (simp; omega))) [World.frozen?_alloc_at]; done) | (simp (disch := (first | (simp; done) | (simp; omega))) [World.frozen?_alloc_past]; done) | (simp (disch := (first | (simp; done) | (simp; omega))) [World.frozen?_alloc_at, World.frozen?_alloc_past]; done))
  have c15 : w7.cell? ⟨w6.heap.size, 1, none⟩ = some (.slice S4 n1 k4) := by rw [ew7]; (first | (simp; done) | (simp (disch := (first | (simp; done) | (simp; omega))) [World.cell?_alloc_at]; done) | (simp (disch := (first | (simp; done) | (simp; omega))) [World.cell?_alloc_past]; done) | (simp (disch := (first | (simp; done) | (simp; omega))) [World.cell?_alloc_at, World.cell?_alloc_past]; done) | (simp (disch := (first | (simp; done) | (simp; omega))) [World.frozen?_alloc_at]; done) | (simp (disch := (first | (simp; done) | (simp; omega))) [World.frozen?_alloc_past]; done) | (simp (disch := (first | (simp; done) | (simp; omega))) [World.frozen?_alloc_at, World.frozen?_alloc_past]; done))
  have yw7 : w7.heap.size = w6.heap.size + 1 := by rw [ew7]; simp
  clear ew7
  have hp1 := own_below hp1 hb7 (Nat.le_refl _)
  have hp2 := own_below hp2 hb7 (Nat.le_refl _)
  have hp3 := own_below hp3 hb7 (Nat.le_refl _)
  have hp4 := own_below hp4 hb7 (Nat.le_refl _)
  have c16 := (hb7.cell (p := ⟨w.heap.size, 0, none⟩) (by simp only []; omega)).trans c11
  clear c11
  have c17 := (hb7.cell (p := ⟨w.heap.size, 1, none⟩) (by simp only []; omega)).trans c12
  clear c12
  have Bw7 : Below w.heap.size w w7 := Bw6.trans (hb7.mono Bw6.size)
  have zw7 := hb7.size
  go_wp2_with fail
  refine (toFloat32S_c w7 A2 n2 cap2 x2 hl2 hn2 (((hx2).below Bw7).more Bw7.size)).mono ?_
  rintro e w8 ⟨v, rfl, ho8, hb8⟩
  have hp1 := own_below hp1 hb8 (Nat.le_refl _)
  have hp2 := own_below hp2 hb8 (Nat.le_refl _)
  have hp3 := own_below hp3 hb8 (Nat.le_refl _)
  have hp4 := own_below hp4 hb8 (Nat.le_refl _)
  have c18 := (hb8.cell (p := ⟨w.heap.size, 0, none⟩) (by simp only []; omega)).trans c16
  clear c16
  have c19 := (hb8.cell (p := ⟨w.heap.size, 1, none⟩) (by simp only []; omega)).trans c17
  clear c17
  have c20 := (hb8.cell (p := ⟨w6.heap.size, 0, none⟩) (by simp only []; omega)).trans c14
  clear c14
  have c21 := (hb8.cell (p := ⟨w6.heap.size, 1, none⟩) (by simp only []; omega)).trans c15
  clear c15
  have Bw8 : Below w.heap.size w w8 := Bw7.trans (hb8.mono Bw7.size)
  have zw8 := hb8.size
  obtain ⟨S5, k5, rfl, hp5⟩ := ho8.opn
  rw [hl2] at hp5 ⊢
  clear ho8
  have hi5 := Lib.hid (own_in hp5)
  go_wp2_with fail
  refine (impl_AllWays_r w8 a0 S4 n1 k4 x1 hl1 hn1 (sl_of_own hp4) S5 n2 k5 x2 hl2 hn2 (sl_of_own hp5) (rowA_of hp5)).mono ?_
  rintro e w9 ⟨v0, rfl, ho9_0, hb9⟩
  have hp1 := own_below hp1 hb9 (Nat.le_refl _)
  have hp2 := own_below hp2 hb9 (Nat.le_refl _)
  have hp3 := own_below hp3 hb9 (Nat.le_refl _)
  have hp4 := own_below hp4 hb9 (Nat.le_refl _)
  have hp5 := own_below hp5 hb9 (Nat.le_refl _)
  have c22 := (hb9.cell (p := ⟨w.heap.size, 0, none⟩) (by simp only []; omega)).trans c18
  clear c18
  have c23 := (hb9.cell (p := ⟨w.heap.size, 1, none⟩) (by simp only []; omega)).trans c19
  clear c19
  have c24 := (hb9.cell (p := ⟨w6.heap.size, 0, none⟩) (by simp only []; omega)).trans c20
  clear c20
  have c25 := (hb9.cell (p := ⟨w6.heap.size, 1, none⟩) (by simp only []; omega)).trans c21
  clear c21
  have Bw9 : Below w.heap.size w w9 := Bw8.trans (hb9.mono Bw8.size)
  have zw9 := hb9.size
  obtain ⟨S6, k6, rfl, hp6⟩ := ho9_0.opn
  clear ho9_0
  have hi6 := Lib.hid (own_in hp6)
  go_wp2_with fail
  refine (calls_grow (eqFloat32S_t w9 S6 S3 (allR a0 x1 x2).length k6 k3 _ _ (allR a0 x1 x2) (allR a0 x1 x2) rfl (Nat.le_trans (by omega) (by decide)) rfl (sl_of_own hp6) (sl_of_own hp3))).mono ?_
  rintro e w10 ⟨rfl, hb10⟩
  have hp1 := own_below hp1 hb10 (Nat.le_refl _)
  have hp2 := own_below hp2 hb10 (Nat.le_refl _)
  have hp3 := own_below hp3 hb10 (Nat.le_refl _)
  have hp4 := own_below hp4 hb10 (Nat.le_refl _)
  have hp5 := own_below hp5 hb10 (Nat.le_refl _)
  have hp6 := own_below hp6 hb10 (Nat.le_refl _)
  have c26 := (hb10.cell (p := ⟨w.heap.size, 0, none⟩) (by simp only []; omega)).trans c22
  clear c22
  have c27 := (hb10.cell (p := ⟨w.heap.size, 1, none⟩) (by simp only []; omega)).trans c23
  clear c23
  have c28 := (hb10.cell (p := ⟨w6.heap.size, 0, none⟩) (by simp only []; omega)).trans c24
  clear c24
  have c29 := (hb10.cell (p := ⟨w6.heap.size, 1, none⟩) (by simp only []; omega)).trans c25
  clear c25
  have Bw10 : Below w.heap.size w w10 := Bw9.trans (hb10.mono Bw9.size)
  have zw10 := hb10.size
  go_wp2_with fail
  go_region_held3 (fun w' => w'.cell? ⟨w6.heap.size, 0, none⟩ = some (.int .i64 a0) ∧ w'.cell? ⟨w6.heap.size, 1, none⟩ = some (.slice S4 n1 k4) ∧ w'.cell? ⟨w.heap.size, 0, none⟩ = some (.int .i64 a0) ∧ w'.cell? ⟨w.heap.size, 1, none⟩ = some (.slice A1 n1 cap1))
    (first | exact ⟨c36, c37, c34, c35⟩ | exact ⟨c32, c33, c30, c31⟩ | exact ⟨c28, c29, c26, c27⟩)
    (first
      | (go_at_call 11; refine (eqCoder_t w11 a0 S4 S7 n1 k4 k7 x1 hl1 (Nat.le_trans hn1 (by decide)) (sl_of_own hp4) (sl_of_own hp7)).mono ?_; rintro e w12 ⟨rfl, hb12⟩; have hp1 := own_below hp1 hb12 (Nat.le_refl _); have hp2 := own_below hp2 hb12 (Nat.le_refl _); have hp3 := own_below hp3 hb12 (Nat.le_refl _); have hp4 := own_below hp4 hb12 (Nat.le_refl _); have hp5 := own_below hp5 hb12 (Nat.le_refl _); have hp6 := own_below hp6 hb12 (Nat.le_refl _); have hp7 := own_below hp7 hb12 (Nat.le_refl _); have c34 := (hb12.cell (p := ⟨w.heap.size, 0, none⟩) (by simp only []; omega)).trans c30; have c35 := (hb12.cell (p := ⟨w.heap.size, 1, none⟩) (by simp only []; omega)).trans c31; have c36 := (hb12.cell (p := ⟨w6.heap.size, 0, none⟩) (by simp only []; omega)).trans c32; have c37 := (hb12.cell (p := ⟨w6.heap.size, 1, none⟩) (by simp only []; omega)).trans c33; have Bw12 : Below w.heap.size w w12 := Bw11.trans (hb12.mono Bw11.size); have zw12 := hb12.size)
      | (go_at_call 7; refine (toCoder_c w10.drew a0 A1 n1 cap1 x1 hl1 hn1 (((hx1).below Bw10).more Bw10.size)).mono ?_; rintro e w11 ⟨v1, rfl, ho11_1, hb11⟩; have hb11 := below_undrew hb11; have zd11 : w10.drew.heap.size = w10.heap.size := rfl; have hp1 := own_below hp1 hb11 (Nat.le_refl _); have hp2 := own_below hp2 hb11 (Nat.le_refl _); have hp3 := own_below hp3 hb11 (Nat.le_refl _); have hp4 := own_below hp4 hb11 (Nat.le_refl _); have hp5 := own_below hp5 hb11 (Nat.le_refl _); have hp6 := own_below hp6 hb11 (Nat.le_refl _); have c30 := (hb11.cell (p := ⟨w.heap.size, 0, none⟩) (by simp only []; omega)).trans c26; have c31 := (hb11.cell (p := ⟨w.heap.size, 1, none⟩) (by simp only []; omega)).trans c27; have c32 := (hb11.cell (p := ⟨w6.heap.size, 0, none⟩) (by simp only []; omega)).trans c28; have c33 := (hb11.cell (p := ⟨w6.heap.size, 1, none⟩) (by simp only []; omega)).trans c29; have Bw11 : Below w.heap.size w w11 := Bw10.trans (hb11.mono Bw10.size); have zw11 := hb11.size; obtain ⟨S7, k7, rfl, hp7⟩ := ho11_1.opn; rw [hl1] at hp7 ⊢; clear ho11_1; have hi7 := Lib.hid (own_in hp7)))
  go_wp2_with fail
  refine (toFloat32S_c w12 A2 n2 cap2 x2 hl2 hn2 (((hx2).below Bw12).more Bw12.size)).mono ?_
  rintro e w13 ⟨v, rfl, ho13, hb13⟩
  have hp1 := own_below hp1 hb13 (Nat.le_refl _)
  have hp2 := own_below hp2 hb13 (Nat.le_refl _)
  have hp3 := own_below hp3 hb13 (Nat.le_refl _)
  have hp4 := own_below hp4 hb13 (Nat.le_refl _)
  have hp5 := own_below hp5 hb13 (Nat.le_refl _)
  have hp6 := own_below hp6 hb13 (Nat.le_refl _)
  have hp7 := own_below hp7 hb13 (Nat.le_refl _)
  have c38 := (hb13.cell (p := ⟨w.heap.size, 0, none⟩) (by simp only []; omega)).trans c34
  clear c34
  have c39 := (hb13.cell (p := ⟨w.heap.size, 1, none⟩) (by simp only []; omega)).trans c35
  clear c35
  have c40 := (hb13.cell (p := ⟨w6.heap.size, 0, none⟩) (by simp only []; omega)).trans c36
  clear c36
  have c41 := (hb13.cell (p := ⟨w6.heap.size, 1, none⟩) (by simp only []; omega)).trans c37
  clear c37
  have Bw13 : Below w.heap.size w w13 := Bw12.trans (hb13.mono Bw12.size)
  have zw13 := hb13.size
  obtain ⟨S8, k8, rfl, hp8⟩ := ho13.opn
  rw [hl2] at hp8 ⊢
  clear ho13
  have hi8 := Lib.hid (own_in hp8)
  go_wp2_with fail
  refine (calls_grow (eqFloat32S_t w13 S5 S8 n2 k5 k8 _ _ x2 x2 hl2 (Nat.le_trans hn2 (by decide)) rfl (sl_of_own hp5) (sl_of_own hp8))).mono ?_
  rintro e w14 ⟨rfl, hb14⟩
  have hp1 := own_below hp1 hb14 (Nat.le_refl _)
  have hp2 := own_below hp2 hb14 (Nat.le_refl _)
  have hp3 := own_below hp3 hb14 (Nat.le_refl _)
  have hp4 := own_below hp4 hb14 (Nat.le_refl _)
  have hp5 := own_below hp5 hb14 (Nat.le_refl _)
  have hp6 := own_below hp6 hb14 (Nat.le_refl _)
  have hp7 := own_below hp7 hb14 (Nat.le_refl _)
  have hp8 := own_below hp8 hb14 (Nat.le_refl _)
  have c42 := (hb14.cell (p := ⟨w.heap.size, 0, none⟩) (by simp only []; omega)).trans c38
  clear c38
  have c43 := (hb14.cell (p := ⟨w.heap.size, 1, none⟩) (by simp only []; omega)).trans c39
  clear c39
  have c44 := (hb14.cell (p := ⟨w6.heap.size, 0, none⟩) (by simp only []; omega)).trans c40
  clear c40
  have c45 := (hb14.cell (p := ⟨w6.heap.size, 1, none⟩) (by simp only []; omega)).trans c41
  clear c41
  have Bw14 : Below w.heap.size w w14 := Bw13.trans (hb14.mono Bw13.size)
  have zw14 := hb14.size
  go_wp2_with fail
  refine (markCoder_c _ _ a0 S4 n1 k4 _ (Nat.le_trans hn1 (by decide)) (1) (by decide) (by decide) hp4).mono ?_
  rintro e w15 ⟨rfl, ho, hg15⟩
  have hp1 := own_apart hp1 hg15 hi1.out hi4.out (by omega)
  have hp2 := own_apart hp2 hg15 hi2.out hi4.out (by omega)
  have hp3 := own_apart hp3 hg15 hi3.out hi4.out (by omega)
  have hp5 := own_apart hp5 hg15 hi5.out hi4.out (by omega)
  have hp6 := own_apart hp6 hg15 hi6.out hi4.out (by omega)
  have hp7 := own_apart hp7 hg15 hi7.out hi4.out (by omega)
  have hp8 := own_apart hp8 hg15 hi8.out hi4.out (by omega)
  have c46 := (cell_apart (p := ⟨w.heap.size, 0, none⟩) hg15 hi4.out (by simp only []; omega) (by simp only []; omega)).trans c42
  clear c42
  have c47 := (cell_apart (p := ⟨w.heap.size, 1, none⟩) hg15 hi4.out (by simp only []; omega) (by simp only []; omega)).trans c43
  clear c43
  have c48 := (cell_apart (p := ⟨w6.heap.size, 0, none⟩) hg15 hi4.out (by simp only []; omega) (by simp only []; omega)).trans c44
  clear c44
  have c49 := (cell_apart (p := ⟨w6.heap.size, 1, none⟩) hg15 hi4.out (by simp only []; omega) (by simp only []; omega)).trans c45
  clear c45
  have hp4 := ho
  clear ho
  have Bw15 : Below w.heap.size w w15 := below_marked Bw14 hg15 hi4.out (by omega) (by omega)
  have zw15 := hg15.size
  have hk15 : (0 : Int) ≤ 1 + (n1 : Nat) := by omega
  go_wp2_with fail
  refine (markFloat32S_c _ _ S5 n2 k5 _ (Nat.le_trans hn2 (by decide)) (1 + (n1 : Nat)) (by omega) (by omega) hp5).mono ?_
  rintro e w16 ⟨rfl, ho, hg16⟩
  have hp1 := own_apart hp1 hg16 hi1.out hi5.out (by omega)
  have hp2 := own_apart hp2 hg16 hi2.out hi5.out (by omega)
  have hp3 := own_apart hp3 hg16 hi3.out hi5.out (by omega)
  have hp4 := own_apart hp4 hg16 hi4.out hi5.out (by omega)
  have hp6 := own_apart hp6 hg16 hi6.out hi5.out (by omega)
  have hp7 := own_apart hp7 hg16 hi7.out hi5.out (by omega)
  have hp8 := own_apart hp8 hg16 hi8.out hi5.out (by omega)
  have c50 := (cell_apart (p := ⟨w.heap.size, 0, none⟩) hg16 hi5.out (by simp only []; omega) (by simp only []; omega)).trans c46
  clear c46
  have c51 := (cell_apart (p := ⟨w.heap.size, 1, none⟩) hg16 hi5.out (by simp only []; omega) (by simp only []; omega)).trans c47
  clear c47
  have c52 := (cell_apart (p := ⟨w6.heap.size, 0, none⟩) hg16 hi5.out (by simp only []; omega) (by simp only []; omega)).trans c48
  clear c48
  have c53 := (cell_apart (p := ⟨w6.heap.size, 1, none⟩) hg16 hi5.out (by simp only []; omega) (by simp only []; omega)).trans c49
  clear c49
  have hp5 := ho
  clear ho
  have Bw16 : Below w.heap.size w w16 := below_marked Bw15 hg16 hi5.out (by omega) (by omega)
  have zw16 := hg16.size
  have hk16 : (0 : Int) ≤ 1 + (n1 : Nat) + (n2 : Nat) := by omega
  go_wp2_with fail
  refine (calls_grow (eqFloat32S_t w16 S6 S3 (allR a0 x1 x2).length k6 k3 _ _ (allR a0 x1 x2) (allR a0 x1 x2) rfl (Nat.le_trans (by omega) (by decide)) rfl (sl_of_own hp6) (sl_of_own hp3))).mono ?_
  rintro e w17 ⟨rfl, hb17⟩
  have hp1 := own_below hp1 hb17 (Nat.le_refl _)
  have hp2 := own_below hp2 hb17 (Nat.le_refl _)
  have hp3 := own_below hp3 hb17 (Nat.le_refl _)
  have hp4 := own_below hp4 hb17 (Nat.le_refl _)
  have hp5 := own_below hp5 hb17 (Nat.le_refl _)
  have hp6 := own_below hp6 hb17 (Nat.le_refl _)
  have hp7 := own_below hp7 hb17 (Nat.le_refl _)
  have hp8 := own_below hp8 hb17 (Nat.le_refl _)
  have c54 := (hb17.cell (p := ⟨w.heap.size, 0, none⟩) (by simp only []; omega)).trans c50
  clear c50
  have c55 := (hb17.cell (p := ⟨w.heap.size, 1, none⟩) (by simp only []; omega)).trans c51
  clear c51
  have c56 := (hb17.cell (p := ⟨w6.heap.size, 0, none⟩) (by simp only []; omega)).trans c52
  clear c52
  have c57 := (hb17.cell (p := ⟨w6.heap.size, 1, none⟩) (by simp only []; omega)).trans c53
  clear c53
  have Bw17 : Below w.heap.size w w17 := Bw16.trans (hb17.mono Bw16.size)
  have zw17 := hb17.size
  go_wp2_with fail
  refine (markFloat32S_c _ _ S6 (allR a0 x1 x2).length k6 _ (Nat.le_trans (by omega) (by decide)) (1) (by decide) (by decide) hp6).mono ?_
  rintro e w18 ⟨rfl, ho, hg18⟩
  have hp1 := own_apart hp1 hg18 hi1.out hi6.out (by omega)
  have hp2 := own_apart hp2 hg18 hi2.out hi6.out (by omega)
  have hp3 := own_apart hp3 hg18 hi3.out hi6.out (by omega)
  have hp4 := own_apart hp4 hg18 hi4.out hi6.out (by omega)
  have hp5 := own_apart hp5 hg18 hi5.out hi6.out (by omega)
  have hp7 := own_apart hp7 hg18 hi7.out hi6.out (by omega)
  have hp8 := own_apart hp8 hg18 hi8.out hi6.out (by omega)
  have c58 := (cell_apart (p := ⟨w.heap.size, 0, none⟩) hg18 hi6.out (by simp only []; omega) (by simp only []; omega)).trans c54
  clear c54
  have c59 := (cell_apart (p := ⟨w.heap.size, 1, none⟩) hg18 hi6.out (by simp only []; omega) (by simp only []; omega)).trans c55
  clear c55
  have c60 := (cell_apart (p := ⟨w6.heap.size, 0, none⟩) hg18 hi6.out (by simp only []; omega) (by simp only []; omega)).trans c56
  clear c56
  have c61 := (cell_apart (p := ⟨w6.heap.size, 1, none⟩) hg18 hi6.out (by simp only []; omega) (by simp only []; omega)).trans c57
  clear c57
  have hp6 := ho
  clear ho
  have Bw18 : Below w.heap.size w w18 := below_marked Bw17 hg18 hi6.out (by omega) (by omega)
  have zw18 := hg18.size
  have hk18 : (0 : Int) ≤ 1 + ((allR a0 x1 x2).length : Nat) := by omega
  go_wp2_with fail
  refine (calls_grow (heldFloat32S_c _ _ S6 (allR a0 x1 x2).length k6 (Nat.le_trans (by omega) (by decide)) (1) (by decide) (by decide) (sl_of_own hp6))).mono ?_
  rintro e w19 ⟨rfl, hb19⟩
  have hp1 := own_below hp1 hb19 (Nat.le_refl _)
  have hp2 := own_below hp2 hb19 (Nat.le_refl _)
  have hp3 := own_below hp3 hb19 (Nat.le_refl _)
  have hp4 := own_below hp4 hb19 (Nat.le_refl _)
  have hp5 := own_below hp5 hb19 (Nat.le_refl _)
  have hp6 := own_below hp6 hb19 (Nat.le_refl _)
  have hp7 := own_below hp7 hb19 (Nat.le_refl _)
  have hp8 := own_below hp8 hb19 (Nat.le_refl _)
  have c62 := (hb19.cell (p := ⟨w.heap.size, 0, none⟩) (by simp only []; omega)).trans c58
  clear c58
  have c63 := (hb19.cell (p := ⟨w.heap.size, 1, none⟩) (by simp only []; omega)).trans c59
  clear c59
  have c64 := (hb19.cell (p := ⟨w6.heap.size, 0, none⟩) (by simp only []; omega)).trans c60
  clear c60
  have c65 := (hb19.cell (p := ⟨w6.heap.size, 1, none⟩) (by simp only []; omega)).trans c61
  clear c61
  have Bw19 : Below w.heap.size w w19 := Bw18.trans (hb19.mono Bw18.size)
  have zw19 := hb19.size
  have hk19 : (0 : Int) ≤ 1 + ((allR a0 x1 x2).length : Nat) := by omega
  go_wp2_with fail
  refine (toCoder_c w19 a0 A1 n1 cap1 x1 hl1 hn1 (((hx1).below Bw19).more Bw19.size)).mono ?_
  rintro e w20 ⟨v1, rfl, ho20_1, hb20⟩
  have hp1 := own_below hp1 hb20 (Nat.le_refl _)
  have hp2 := own_below hp2 hb20 (Nat.le_refl _)
  have hp3 := own_below hp3 hb20 (Nat.le_refl _)
  have hp4 := own_below hp4 hb20 (Nat.le_refl _)
  have hp5 := own_below hp5 hb20 (Nat.le_refl _)
  have hp6 := own_below hp6 hb20 (Nat.le_refl _)
  have hp7 := own_below hp7 hb20 (Nat.le_refl _)
  have hp8 := own_below hp8 hb20 (Nat.le_refl _)
  have c66 := (hb20.cell (p := ⟨w.heap.size, 0, none⟩) (by simp only []; omega)).trans c62
  clear c62
  have c67 := (hb20.cell (p := ⟨w.heap.size, 1, none⟩) (by simp only []; omega)).trans c63
  clear c63
  have c68 := (hb20.cell (p := ⟨w6.heap.size, 0, none⟩) (by simp only []; omega)).trans c64
  clear c64
  have c69 := (hb20.cell (p := ⟨w6.heap.size, 1, none⟩) (by simp only []; omega)).trans c65
  clear c65
  have Bw20 : Below w.heap.size w w20 := Bw19.trans (hb20.mono Bw19.size)
  have zw20 := hb20.size
  obtain ⟨S9, k9, rfl, hp9⟩ := ho20_1.opn
  rw [hl1] at hp9 ⊢
  clear ho20_1
  have hi9 := Lib.hid (own_in hp9)
  go_wp2_with fail
  refine (toFloat32S_c w20 A2 n2 cap2 x2 hl2 hn2 (((hx2).below Bw20).more Bw20.size)).mono ?_
  rintro e w21 ⟨v, rfl, ho21, hb21⟩
  have hp1 := own_below hp1 hb21 (Nat.le_refl _)
  have hp2 := own_below hp2 hb21 (Nat.le_refl _)
  have hp3 := own_below hp3 hb21 (Nat.le_refl _)
  have hp4 := own_below hp4 hb21 (Nat.le_refl _)
  have hp5 := own_below hp5 hb21 (Nat.le_refl _)
  have hp6 := own_below hp6 hb21 (Nat.le_refl _)
  have hp7 := own_below hp7 hb21 (Nat.le_refl _)
  have hp8 := own_below hp8 hb21 (Nat.le_refl _)
  have hp9 := own_below hp9 hb21 (Nat.le_refl _)
  have c70 := (hb21.cell (p := ⟨w.heap.size, 0, none⟩) (by simp only []; omega)).trans c66
  clear c66
  have c71 := (hb21.cell (p := ⟨w.heap.size, 1, none⟩) (by simp only []; omega)).trans c67
  clear c67
  have c72 := (hb21.cell (p := ⟨w6.heap.size, 0, none⟩) (by simp only []; omega)).trans c68
  clear c68
  have c73 := (hb21.cell (p := ⟨w6.heap.size, 1, none⟩) (by simp only []; omega)).trans c69
  clear c69
  have Bw21 : Below w.heap.size w w21 := Bw20.trans (hb21.mono Bw20.size)
  have zw21 := hb21.size
  obtain ⟨S10, k10, rfl, hp10⟩ := ho21.opn
  rw [hl2] at hp10 ⊢
  clear ho21
  have hi10 := Lib.hid (own_in hp10)
  go_wp2_with fail
  refine (impl_AllWays_r w21 a0 S9 n1 k9 x1 hl1 hn1 (sl_of_own hp9) S10 n2 k10 x2 hl2 hn2 (sl_of_own hp10) (rowA_of hp10)).mono ?_
  rintro e w22 ⟨v0, rfl, ho22_0, hb22⟩
  have hp1 := own_below hp1 hb22 (Nat.le_refl _)
  have hp2 := own_below hp2 hb22 (Nat.le_refl _)
  have hp3 := own_below hp3 hb22 (Nat.le_refl _)
  have hp4 := own_below hp4 hb22 (Nat.le_refl _)
  have hp5 := own_below hp5 hb22 (Nat.le_refl _)
  have hp6 := own_below hp6 hb22 (Nat.le_refl _)
  have hp7 := own_below hp7 hb22 (Nat.le_refl _)
  have hp8 := own_below hp8 hb22 (Nat.le_refl _)
  have hp9 := own_below hp9 hb22 (Nat.le_refl _)
  have hp10 := own_below hp10 hb22 (Nat.le_refl _)
  have c74 := (hb22.cell (p := ⟨w.heap.size, 0, none⟩) (by simp only []; omega)).trans c70
  clear c70
  have c75 := (hb22.cell (p := ⟨w.heap.size, 1, none⟩) (by simp only []; omega)).trans c71
  clear c71
  have c76 := (hb22.cell (p := ⟨w6.heap.size, 0, none⟩) (by simp only []; omega)).trans c72
  clear c72
  have c77 := (hb22.cell (p := ⟨w6.heap.size, 1, none⟩) (by simp only []; omega)).trans c73
  clear c73
  have Bw22 : Below w.heap.size w w22 := Bw21.trans (hb22.mono Bw21.size)
  have zw22 := hb22.size
  obtain ⟨S11, k11, rfl, hp11⟩ := ho22_0.opn
  clear ho22_0
  have hi11 := Lib.hid (own_in hp11)
  go_wp2_with fail
  refine (calls_grow (eqFloat32S_t w22 S11 S3 (allR a0 x1 x2).length k11 k3 _ _ (allR a0 x1 x2) (allR a0 x1 x2) rfl (Nat.le_trans (by omega) (by decide)) rfl (sl_of_own hp11) (sl_of_own hp3))).mono ?_
  rintro e w23 ⟨rfl, hb23⟩
  have hp1 := own_below hp1 hb23 (Nat.le_refl _)
  have hp2 := own_below hp2 hb23 (Nat.le_refl _)
  have hp3 := own_below hp3 hb23 (Nat.le_refl _)
  have hp4 := own_below hp4 hb23 (Nat.le_refl _)
  have hp5 := own_below hp5 hb23 (Nat.le_refl _)
  have hp6 := own_below hp6 hb23 (Nat.le_refl _)
  have hp7 := own_below hp7 hb23 (Nat.le_refl _)
  have hp8 := own_below hp8 hb23 (Nat.le_refl _)
  have hp9 := own_below hp9 hb23 (Nat.le_refl _)
  have hp10 := own_below hp10 hb23 (Nat.le_refl _)
  have hp11 := own_below hp11 hb23 (Nat.le_refl _)
  have c78 := (hb23.cell (p := ⟨w.heap.size, 0, none⟩) (by simp only []; omega)).trans c74
  clear c74
  have c79 := (hb23.cell (p := ⟨w.heap.size, 1, none⟩) (by simp only []; omega)).trans c75
  clear c75
  have c80 := (hb23.cell (p := ⟨w6.heap.size, 0, none⟩) (by simp only []; omega)).trans c76
  clear c76
  have c81 := (hb23.cell (p := ⟨w6.heap.size, 1, none⟩) (by simp only []; omega)).trans c77
  clear c77
  have Bw23 : Below w.heap.size w w23 := Bw22.trans (hb23.mono Bw22.size)
  have zw23 := hb23.size
  go_wp2_with fail
  refine (calls_grow (heldFloat32S_c _ _ S6 (allR a0 x1 x2).length k6 (Nat.le_trans (by omega) (by decide)) (1) (by decide) (by decide) (sl_of_own hp6))).mono ?_
  rintro e w24 ⟨rfl, hb24⟩
  have hp1 := own_below hp1 hb24 (Nat.le_refl _)
  have hp2 := own_below hp2 hb24 (Nat.le_refl _)
  have hp3 := own_below hp3 hb24 (Nat.le_refl _)
  have hp4 := own_below hp4 hb24 (Nat.le_refl _)
  have hp5 := own_below hp5 hb24 (Nat.le_refl _)
  have hp6 := own_below hp6 hb24 (Nat.le_refl _)
  have hp7 := own_below hp7 hb24 (Nat.le_refl _)
  have hp8 := own_below hp8 hb24 (Nat.le_refl _)
  have hp9 := own_below hp9 hb24 (Nat.le_refl _)
  have hp10 := own_below hp10 hb24 (Nat.le_refl _)
  have hp11 := own_below hp11 hb24 (Nat.le_refl _)
  have c82 := (hb24.cell (p := ⟨w.heap.size, 0, none⟩) (by simp only []; omega)).trans c78
  clear c78
  have c83 := (hb24.cell (p := ⟨w.heap.size, 1, none⟩) (by simp only []; omega)).trans c79
  clear c79
  have c84 := (hb24.cell (p := ⟨w6.heap.size, 0, none⟩) (by simp only []; omega)).trans c80
  clear c80
  have c85 := (hb24.cell (p := ⟨w6.heap.size, 1, none⟩) (by simp only []; omega)).trans c81
  clear c81
  have Bw24 : Below w.heap.size w w24 := Bw23.trans (hb24.mono Bw23.size)
  have zw24 := hb24.size
  have hk24 : (0 : Int) ≤ 1 + ((allR a0 x1 x2).length : Nat) := by omega
  go_wp2
  go_ret
  exact ⟨rfl, Bw24⟩

end Go.Proofs.Ytopeidmafalklaa
