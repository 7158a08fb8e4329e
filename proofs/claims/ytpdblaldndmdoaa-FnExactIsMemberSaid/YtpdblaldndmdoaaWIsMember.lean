/-
  FnExactIsMember returns true for every input, and leaves its arguments as they were.
  Conditions: none beyond the given statement's own.
-/
import Derived.Test.YtpdblaldndmdoaaH
import Derived.Deep.RegionHeld3
import Derived.Test.YtpdblaldndmdoaaGM
namespace Go.Proofs.Ytpdblaldndmdoaa
open Go.RowKit

set_option maxRecDepth 100000 in
set_option maxHeartbeats 4000000 in
theorem law_IsMember (w : World) (a0 : Int) (A1 : Option Addr) (n1 cap1 : Nat) (x1 : List RowH) (A2 : Option Addr) (n2 cap2 : Nat) (x2 : List Bool) (hl1 : x1.length = n1) (hm1 : n1 ≤ maxLen) (hq1 : ∀ r ∈ x1, r.2.2.length ≤ maxLen) (hx1 : Sl2 w w.heap.size A1 x1) (hl2 : x2.length = n2) (hm2 : n2 ≤ maxLen) (hx2 : Sl w w.heap.size A2 (x2.map Value.bool)) :
    Calls Try.prog 4 #[.agg #[.int .i64 a0, .slice A1 n1 cap1], .slice A2 n2 cap2] w fun e w' => e = .returned (.bool true) ∧ Below w.heap.size w w' := by
  unfold maxLen at hm1 hq1
  unfold maxLen at hm2
  rcases Nat.lt_or_ge 1048576 n2 with hn2 | hn2
  · go_enter Try.func4, Try.ntmps4
    go_wp2
    go_ret
    first | exact ⟨rfl, Below.refl _ _⟩ | exact ⟨rfl, (Below.refl _ _).alloc (Nat.le_refl _) _⟩
  have hq : ∀ b : Bool, (b == b) = true := fun b => by simp
  go_enter Try.func4, Try.ntmps4
  go_wp2_with fail
  obtain ⟨w1, ew1⟩ : ∃ q : World, q = (w.alloc (.cells #[.int .i64 a0, .slice A1 n1 cap1] 24)) := ⟨_, rfl⟩
  rw [← ew1]
  have Bw1 : Below w.heap.size w w1 := by rw [ew1]; exact ((Below.refl _ _).alloc (Nat.le_refl _) _)
  have zw1 : w1.heap.size = w.heap.size + 1 := by rw [ew1]; simp
  have c1 : w1.cell? ⟨w.heap.size, 0, none⟩ = some (.int .i64 a0) := by rw [ew1]; (first | (simp; done) | (simp (disch := (first | (simp; done) | (simp; omega))) [World.cell?_alloc_at]; done) | (simp (disch := (first | (simp; done) | (simp; omega))) [World.cell?_alloc_past]; done) | (simp (disch := (first | (simp; done) | (simp; omega))) [World.cell?_alloc_at, World.cell?_alloc_past]; done) | (simp (disch := (first | (simp; done) | (simp; omega))) [World.frozen?_alloc_at]; done) | (simp (disch := (first | (simp; done) | (simp; omega))) [World.frozen?_alloc_past]; done) | (simp (disch := (first | (simp; done) | (simp; omega))) [World.frozen?_alloc_at, World.frozen?_alloc_past]; done))
  have c2 : w1.cell? ⟨w.heap.size, 1, none⟩ = some (.slice A1 n1 cap1) := by rw [ew1]; (first | (simp; done) | (simp (disch := (first | (simp; done) | (simp; omega))) [World.cell?_alloc_at]; done) | (simp (disch := (first | (simp; done) | (simp; omega))) [World.cell?_alloc_past]; done) | (simp (disch := (first | (simp; done) | (simp; omega))) [World.cell?_alloc_at, World.cell?_alloc_past]; done) | (simp (disch := (first | (simp; done) | (simp; omega))) [World.frozen?_alloc_at]; done) | (simp (disch := (first | (simp; done) | (simp; omega))) [World.frozen?_alloc_past]; done) | (simp (disch := (first | (simp; done) | (simp; omega))) [World.frozen?_alloc_at, World.frozen?_alloc_past]; done))
  clear ew1
  go_wp2_with fail
  refine (szGraph_c w1 a0 A1 n1 cap1 x1 1048576 (by omega) (by omega) hl1 (by omega) hq1 (((hx1).below Bw1).more Bw1.size)).mono ?_
  rintro e w2 ⟨q2, rfl, sq2, hb2⟩
  have c3 := (hb2.cell (p := ⟨w.heap.size, 0, none⟩) (by simp only []; omega)).trans c1
  clear c1
  have c4 := (hb2.cell (p := ⟨w.heap.size, 1, none⟩) (by simp only []; omega)).trans c2
  clear c2
  have Bw2 : Below w.heap.size w w2 := Bw1.trans (hb2.mono Bw1.size)
  have zw2 := hb2.size
  rcases sq2 with rfl | ⟨sq2, sq21, hn1, hr1⟩
  · go_wp2
    go_ret
    exact ⟨rfl, Bw2⟩
  go_wp2_with fail
  refine (toGraph_c w2 a0 A1 n1 cap1 x1 hl1 hn1 hr1 (((hx1).below Bw2).more Bw2.size)).mono ?_
  rintro e w3 ⟨v1, y3_1, rfl, hd3_1, hin3_1, ho3_1, hb3⟩
  have c5 := (hb3.cell (p := ⟨w.heap.size, 0, none⟩) (by simp only []; omega)).trans c3
  clear c3
  have c6 := (hb3.cell (p := ⟨w.heap.size, 1, none⟩) (by simp only []; omega)).trans c4
  clear c4
  have Bw3 : Below w.heap.size w w3 := Bw2.trans (hb3.mono Bw2.size)
  have zw3 := hb3.size
  have hyl3_1 : y3_1.length = n1 := (by rw [rows_len hd3_1, hl1])
  have hyr3_1 := rows_short hd3_1 hr1
  obtain ⟨S1, k1, rfl, hp1⟩ := ho3_1.opn
  rw [hyl3_1] at hp1 ⊢
  clear ho3_1
  have hi1 := Lib.hid (own_in hp1)
  go_wp2_with fail
  refine (toBoolS_c w3 A2 n2 cap2 x2 hl2 hn2 (((hx2).below Bw3).more Bw3.size)).mono ?_
  rintro e w4 ⟨v, rfl, ho4, hb4⟩
  have hin3_1 := fun y hy => own_below (hin3_1 y hy) hb4 (Nat.le_refl _)
  have hp1 := own_below hp1 hb4 (Nat.le_refl _)
  have c7 := (hb4.cell (p := ⟨w.heap.size, 0, none⟩) (by simp only []; omega)).trans c5
  clear c5
  have c8 := (hb4.cell (p := ⟨w.heap.size, 1, none⟩) (by simp only []; omega)).trans c6
  clear c6
  have Bw4 : Below w.heap.size w w4 := Bw3.trans (hb4.mono Bw3.size)
  have zw4 := hb4.size
  obtain ⟨S2, k2, rfl, hp2⟩ := ho4.opn
  rw [hl2] at hp2 ⊢
  clear ho4
  have hi2 := Lib.hid (own_in hp2)
  go_wp2_with fail
  refine (spec_IsMember_c w4 a0 S1 n1 k1 y3_1 (dat x1) hd3_1 hyl3_1 hn1 hyr3_1 (sl2_of_own hp1 hin3_1) S2 n2 k2 x2 hl2 hn2 (sl_of_own hp2)).mono ?_
  rintro e w5 ⟨rfl, hb5⟩
  have hin3_1 := fun y hy => own_below (hin3_1 y hy) hb5 (Nat.le_refl _)
  have hp1 := own_below hp1 hb5 (Nat.le_refl _)
  have hp2 := own_below hp2 hb5 (Nat.le_refl _)
  have c9 := (hb5.cell (p := ⟨w.heap.size, 0, none⟩) (by simp only []; omega)).trans c7
  clear c7
  have c10 := (hb5.cell (p := ⟨w.heap.size, 1, none⟩) (by simp only []; omega)).trans c8
  clear c8
  have Bw5 : Below w.heap.size w w5 := Bw4.trans (hb5.mono Bw4.size)
  have zw5 := hb5.size
  go_wp2_with fail
  refine (toGraph_c w5 a0 A1 n1 cap1 x1 hl1 hn1 hr1 (((hx1).below Bw5).more Bw5.size)).mono ?_
  rintro e w6 ⟨v1, y6_1, rfl, hd6_1, hin6_1, ho6_1, hb6⟩
  have hin3_1 := fun y hy => own_below (hin3_1 y hy) hb6 (Nat.le_refl _)
  have hp1 := own_below hp1 hb6 (Nat.le_refl _)
  have hp2 := own_below hp2 hb6 (Nat.le_refl _)
  have c11 := (hb6.cell (p := ⟨w.heap.size, 0, none⟩) (by simp only []; omega)).trans c9
  clear c9
  have c12 := (hb6.cell (p := ⟨w.heap.size, 1, none⟩) (by simp only []; omega)).trans c10
  clear c10
  have Bw6 : Below w.heap.size w w6 := Bw5.trans (hb6.mono Bw5.size)
  have zw6 := hb6.size
  have hyl6_1 : y6_1.length = n1 := (by rw [rows_len hd6_1, hl1])
  have hyr6_1 := rows_short hd6_1 hr1
  obtain ⟨S3, k3, rfl, hp3⟩ := ho6_1.opn
  rw [hyl6_1] at hp3 ⊢
  clear ho6_1
  have hi3 := Lib.hid (own_in hp3)
  have l6_12 : w.heap.size < w6.heap.size := by omega
  go_wp2_with fail
  obtain ⟨w7, ew7⟩ : ∃ q : World, q = w6.alloc (.cells #[.int .i64 a0, .slice S3 n1 k3] 27) := ⟨_, rfl⟩
  rw [← ew7]
  have hb7 : Below w6.heap.size w6 w7 := by rw [ew7]; exact (Below.refl _ _).alloc (Nat.le_refl _) _
  have c14 : w7.cell? ⟨w6.heap.size, 0, none⟩ = some (.int .i64 a0) := by rw [ew7]; (first | (simp; done) | (simp (disch := (first | (simp; done) | (simp; omega))) [World.cell?_alloc_at]; done) | (simp (disch := (first | (simp; done) | (simp; omega))) [World.cell?_alloc_past]; done) | (simp (disch := (first | (simp; done) | (simp; omega))) [World.cell?_alloc_at, World.cell?_alloc_past]; done) | (simp (disch := (first | (simp; done) | (simp; omega))) [World.frozen?_alloc_at]; done) | (simp (disch := (first | (simp; done) | (simp; omega))) [World.frozen?_alloc_past]; done) | (simp (disch := (first | (simp; done) | (simp; omega))) [World.frozen?_alloc_at, World.frozen?_alloc_past]; done))
  have c15 : w7.cell? ⟨w6.heap.size, 1, none⟩ = some (.slice S3 n1 k3) := by rw [ew7]; (first | (simp; done) | (simp (disch := (first | (simp; done) | (simp; omega))) [World.cell?_alloc_at]; done) | (simp (disch := (first | (simp; done) | (simp; omega))) [World.cell?_alloc_past]; done) | (simp (disch := (first | (simp; done) | (simp; omega))) [World.cell?_alloc_at, World.cell?_alloc_past]; done) | (simp (disch := (first | (simp; done) | (simp; omega))) [World.frozen?_alloc_at]; done) | (simp (disch := (first | (simp; done) | (simp; omega))) [World.frozen?_alloc_past]; done) | (simp (disch := (first | (simp; done) | (simp; omega))) [World.frozen?_alloc_at, World.frozen?_alloc_past]; done))
  have yw7 : w7.heap.size = w6.heap.size + 1 := by rw [ew7]; simp
  clear ew7
  have hin3_1 := fun y hy => own_below (hin3_1 y hy) hb7 (Nat.le_refl _)
  have hp1 := own_below hp1 hb7 (Nat.le_refl _)
  have hp2 := own_below hp2 hb7 (Nat.le_refl _)
  have hin6_1 := fun y hy => own_below (hin6_1 y hy) hb7 (Nat.le_refl _)
  have hp3 := own_below hp3 hb7 (Nat.le_refl _)
  have c16 := (hb7.cell (p := ⟨w.heap.size, 0, none⟩) (by simp only []; omega)).trans c11
  clear c11
  have c17 := (hb7.cell (p := ⟨w.heap.size, 1, none⟩) (by simp only []; omega)).trans c12
  clear c12
  have Bw7 : Below w.heap.size w w7 := Bw6.trans (hb7.mono Bw6.size)
  have zw7 := hb7.size
  go_wp2_with fail
  refine (toBoolS_c w7 A2 n2 cap2 x2 hl2 hn2 (((hx2).below Bw7).more Bw7.size)).mono ?_
  rintro e w8 ⟨v, rfl, ho8, hb8⟩
  have hin3_1 := fun y hy => own_below (hin3_1 y hy) hb8 (Nat.le_refl _)
  have hp1 := own_below hp1 hb8 (Nat.le_refl _)
  have hp2 := own_below hp2 hb8 (Nat.le_refl _)
  have hin6_1 := fun y hy => own_below (hin6_1 y hy) hb8 (Nat.le_refl _)
  have hp3 := own_below hp3 hb8 (Nat.le_refl _)
  have c18 := (hb8.cell (p := ⟨w.heap.size, 0, none⟩) (by simp only []; omega)).trans c16
  clear c16
  have c19 := (hb8.cell (p := ⟨w.heap.size, 1, none⟩) (by simp only []; omega)).trans c17
  clear c17
  have c20 := (hb8.cell (p := ⟨w6.heap.size, 0, none⟩) (by simp only []; omega)).trans c14
  clear c14
  have c21 := (hb8.cell (p := ⟨w6.heap.size, 1, none⟩) (by simp only []; omega)).trans c15
  clear c15
  have Bw8 : Below w.heap.size w w8 := Bw7.trans (hb8.mono Bw7.size)
  have zw8 := hb8.size
  obtain ⟨S4, k4, rfl, hp4⟩ := ho8.opn
  rw [hl2] at hp4 ⊢
  clear ho8
  have hi4 := Lib.hid (own_in hp4)
  go_wp2_with fail
  refine (impl_IsMember_c w8 a0 S3 n1 k3 y6_1 (dat x1) hd6_1 hyl6_1 hn1 hyr6_1 (sl2_of_own hp3 hin6_1) S4 n2 k4 x2 hl2 hn2 (sl_of_own hp4)).mono ?_
  rintro e w9 ⟨rfl, hb9⟩
  have hin3_1 := fun y hy => own_below (hin3_1 y hy) hb9 (Nat.le_refl _)
  have hp1 := own_below hp1 hb9 (Nat.le_refl _)
  have hp2 := own_below hp2 hb9 (Nat.le_refl _)
  have hin6_1 := fun y hy => own_below (hin6_1 y hy) hb9 (Nat.le_refl _)
  have hp3 := own_below hp3 hb9 (Nat.le_refl _)
  have hp4 := own_below hp4 hb9 (Nat.le_refl _)
  have c22 := (hb9.cell (p := ⟨w.heap.size, 0, none⟩) (by simp only []; omega)).trans c18
  clear c18
  have c23 := (hb9.cell (p := ⟨w.heap.size, 1, none⟩) (by simp only []; omega)).trans c19
  clear c19
  have c24 := (hb9.cell (p := ⟨w6.heap.size, 0, none⟩) (by simp only []; omega)).trans c20
  clear c20
  have c25 := (hb9.cell (p := ⟨w6.heap.size, 1, none⟩) (by simp only []; omega)).trans c21
  clear c21
  have Bw9 : Below w.heap.size w w9 := Bw8.trans (hb9.mono Bw8.size)
  have zw9 := hb9.size
  go_wp2_with fail
  go_region_held3 (fun w' => w'.cell? ⟨w6.heap.size, 0, none⟩ = some (.int .i64 a0) ∧ w'.cell? ⟨w6.heap.size, 1, none⟩ = some (.slice S3 n1 k3) ∧ w'.cell? ⟨w.heap.size, 0, none⟩ = some (.int .i64 a0) ∧ w'.cell? ⟨w.heap.size, 1, none⟩ = some (.slice A1 n1 cap1))
    (first | exact ⟨c32, c33, c30, c31⟩ | exact ⟨c28, c29, c26, c27⟩ | exact ⟨c24, c25, c22, c23⟩)
    (first
      | (go_at_call 15; refine (eqGraph_t w10 a0 S3 S5 n1 k3 k5 y6_1 y10_1 (hd6_1.trans hd10_1.symm) hyl6_1 hn1 hyr6_1 (sl2_of_own hp3 hin6_1) (sl2_of_own hp5 hin10_1)).mono ?_; rintro e w11 ⟨rfl, hb11⟩; have hin3_1 := fun y hy => own_below (hin3_1 y hy) hb11 (Nat.le_refl _); have hp1 := own_below hp1 hb11 (Nat.le_refl _); have hp2 := own_below hp2 hb11 (Nat.le_refl _); have hin6_1 := fun y hy => own_below (hin6_1 y hy) hb11 (Nat.le_refl _); have hp3 := own_below hp3 hb11 (Nat.le_refl _); have hp4 := own_below hp4 hb11 (Nat.le_refl _); have hin10_1 := fun y hy => own_below (hin10_1 y hy) hb11 (Nat.le_refl _); have hp5 := own_below hp5 hb11 (Nat.le_refl _); have c30 := (hb11.cell (p := ⟨w.heap.size, 0, none⟩) (by simp only []; omega)).trans c26; have c31 := (hb11.cell (p := ⟨w.heap.size, 1, none⟩) (by simp only []; omega)).trans c27; have c32 := (hb11.cell (p := ⟨w6.heap.size, 0, none⟩) (by simp only []; omega)).trans c28; have c33 := (hb11.cell (p := ⟨w6.heap.size, 1, none⟩) (by simp only []; omega)).trans c29; have Bw11 : Below w.heap.size w w11 := Bw10.trans (hb11.mono Bw10.size); have zw11 := hb11.size)
      | (go_at_call 13; refine (toGraph_c w9.drew a0 A1 n1 cap1 x1 hl1 hn1 hr1 (((hx1).below Bw9).more Bw9.size)).mono ?_; rintro e w10 ⟨v1, y10_1, rfl, hd10_1, hin10_1, ho10_1, hb10⟩; have hb10 := below_undrew hb10; have hin3_1 := fun y hy => own_below (hin3_1 y hy) hb10 (Nat.le_refl _); have hp1 := own_below hp1 hb10 (Nat.le_refl _); have hp2 := own_below hp2 hb10 (Nat.le_refl _); have hin6_1 := fun y hy => own_below (hin6_1 y hy) hb10 (Nat.le_refl _); have hp3 := own_below hp3 hb10 (Nat.le_refl _); have hp4 := own_below hp4 hb10 (Nat.le_refl _); have c26 := (hb10.cell (p := ⟨w.heap.size, 0, none⟩) (by simp only []; omega)).trans c22; have c27 := (hb10.cell (p := ⟨w.heap.size, 1, none⟩) (by simp only []; omega)).trans c23; have c28 := (hb10.cell (p := ⟨w6.heap.size, 0, none⟩) (by simp only []; omega)).trans c24; have c29 := (hb10.cell (p := ⟨w6.heap.size, 1, none⟩) (by simp only []; omega)).trans c25; have Bw10 : Below w.heap.size w w10 := Bw9.trans (hb10.mono Bw9.size); have zw10 := hb10.size; have hyl10_1 : y10_1.length = n1 := (by rw [rows_len hd10_1, hl1]); have hyr10_1 := rows_short hd10_1 hr1; obtain ⟨S5, k5, rfl, hp5⟩ := ho10_1.opn; rw [hyl10_1] at hp5 ⊢; clear ho10_1; have hi5 := Lib.hid (own_in hp5)))
  go_wp2_with fail
  refine (toBoolS_c w11 A2 n2 cap2 x2 hl2 hn2 (((hx2).below Bw11).more Bw11.size)).mono ?_
  rintro e w12 ⟨v, rfl, ho12, hb12⟩
  have hin3_1 := fun y hy => own_below (hin3_1 y hy) hb12 (Nat.le_refl _)
  have hp1 := own_below hp1 hb12 (Nat.le_refl _)
  have hp2 := own_below hp2 hb12 (Nat.le_refl _)
  have hin6_1 := fun y hy => own_below (hin6_1 y hy) hb12 (Nat.le_refl _)
  have hp3 := own_below hp3 hb12 (Nat.le_refl _)
  have hp4 := own_below hp4 hb12 (Nat.le_refl _)
  have hin10_1 := fun y hy => own_below (hin10_1 y hy) hb12 (Nat.le_refl _)
  have hp5 := own_below hp5 hb12 (Nat.le_refl _)
  have c34 := (hb12.cell (p := ⟨w.heap.size, 0, none⟩) (by simp only []; omega)).trans c30
  clear c30
  have c35 := (hb12.cell (p := ⟨w.heap.size, 1, none⟩) (by simp only []; omega)).trans c31
  clear c31
  have c36 := (hb12.cell (p := ⟨w6.heap.size, 0, none⟩) (by simp only []; omega)).trans c32
  clear c32
  have c37 := (hb12.cell (p := ⟨w6.heap.size, 1, none⟩) (by simp only []; omega)).trans c33
  clear c33
  have Bw12 : Below w.heap.size w w12 := Bw11.trans (hb12.mono Bw11.size)
  have zw12 := hb12.size
  obtain ⟨S6, k6, rfl, hp6⟩ := ho12.opn
  rw [hl2] at hp6 ⊢
  clear ho12
  have hi6 := Lib.hid (own_in hp6)
  go_wp2_with fail
  refine (calls_grow (eqBoolS_t w12 S4 S6 n2 k4 k6 _ _ x2 hl2 (Nat.le_trans hn2 (by decide)) (sl_of_own hp4) (sl_of_own hp6))).mono ?_
  rintro e w13 ⟨rfl, hb13⟩
  have hin3_1 := fun y hy => own_below (hin3_1 y hy) hb13 (Nat.le_refl _)
  have hp1 := own_below hp1 hb13 (Nat.le_refl _)
  have hp2 := own_below hp2 hb13 (Nat.le_refl _)
  have hin6_1 := fun y hy => own_below (hin6_1 y hy) hb13 (Nat.le_refl _)
  have hp3 := own_below hp3 hb13 (Nat.le_refl _)
  have hp4 := own_below hp4 hb13 (Nat.le_refl _)
  have hin10_1 := fun y hy => own_below (hin10_1 y hy) hb13 (Nat.le_refl _)
  have hp5 := own_below hp5 hb13 (Nat.le_refl _)
  have hp6 := own_below hp6 hb13 (Nat.le_refl _)
  have c38 := (hb13.cell (p := ⟨w.heap.size, 0, none⟩) (by simp only []; omega)).trans c34
  clear c34
  have c39 := (hb13.cell (p := ⟨w.heap.size, 1, none⟩) (by simp only []; omega)).trans c35
  clear c35
  have c40 := (hb13.cell (p := ⟨w6.heap.size, 0, none⟩) (by simp only []; omega)).trans c36
  clear c36
  have c41 := (hb13.cell (p := ⟨w6.heap.size, 1, none⟩) (by simp only []; omega)).trans c37
  clear c37
  have Bw13 : Below w.heap.size w w13 := Bw12.trans (hb13.mono Bw12.size)
  have zw13 := hb13.size
  go_wp2
  go_ret
  exact ⟨rfl, Bw13⟩

end Go.Proofs.Ytpdblaldndmdoaa
