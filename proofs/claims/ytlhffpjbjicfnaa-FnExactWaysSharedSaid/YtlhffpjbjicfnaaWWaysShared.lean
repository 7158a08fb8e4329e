/-
  FnExactWaysShared returns true for every input, and leaves its arguments as they were.
  Conditions: none beyond the given statement's own.
-/
import Derived.Test.YtlhffpjbjicfnaaH
import Derived.Deep.RegionHeld3
import Derived.Test.YtlhffpjbjicfnaaWH
namespace Go.Proofs.Ytlhffpjbjicfnaa
open Go.RowKit

set_option maxRecDepth 100000 in
set_option maxHeartbeats 20000000 in
theorem law_WaysShared (w : World) (a0 : Int) (A1 : Option Addr) (n1 cap1 : Nat) (x1 : List Int) (A2 : Option Addr) (n2 cap2 : Nat) (x2 : List RowHF) (a3 : Int) (hl1 : x1.length = n1) (hm1 : n1 ≤ maxLen) (hx1 : Sl w w.heap.size A1 (x1.map (Value.int .i64))) (hl2 : x2.length = n2) (hm2 : n2 ≤ maxLen) (hq2 : ∀ r ∈ x2, r.2.2.length ≤ maxLen) (hx2 : Sl2F w w.heap.size A2 x2) :
    Calls Try.prog 4 #[.agg #[.int .i64 a0, .slice A1 n1 cap1], .slice A2 n2 cap2, .int .i64 a3] w fun e w' => e = .returned (.bool true) ∧ Below w.heap.size w w' := by
  unfold maxLen at hm1 hm2 hq2
  have hq : ∀ b : Bool, (b == b) = true := fun b => by simp
  have hwl := waysL_len a0 x1 (datF x2) a3
  go_enter Try.func4, Try.ntmps4
  go_wp2_with fail
  obtain ⟨w1, ew1⟩ : ∃ q : World, q = w.alloc (.cells #[.int .i64 a0, .slice A1 n1 cap1] 24) := ⟨_, rfl⟩
  rw [← ew1]
  have Bw1 : Below w.heap.size w w1 := by rw [ew1]; exact (Below.refl _ _).alloc (Nat.le_refl _) _
  have zw1 : w1.heap.size = w.heap.size + 1 := by rw [ew1]; simp
  have c1 : w1.cell? ⟨w.heap.size, 0, none⟩ = some (.int .i64 a0) := by rw [ew1]; (first | (simp; done) | (simp (disch := (first | (simp; done) | (simp; omega))) [World.cell?_alloc_at]; done) | (simp (disch := (first | (simp; done) | (simp; omega))) [World.cell?_alloc_past]; done) | (simp (disch := (first | (simp; done) | (simp; omega))) [World.cell?_alloc_at, World.cell?_alloc_past]; done) | (simp (disch := (first | (simp; done) | (simp; omega))) [World.frozen?_alloc_at]; done) | (simp (disch := (first | (simp; done) | (simp; omega))) [World.frozen?_alloc_past]; done) | (simp (disch := (first | (simp; done) | (simp; omega))) [World.frozen?_alloc_at, World.frozen?_alloc_past]; done))
  have c2 : w1.cell? ⟨w.heap.size, 1, none⟩ = some (.slice A1 n1 cap1) := by rw [ew1]; (first | (simp; done) | (simp (disch := (first | (simp; done) | (simp; omega))) [World.cell?_alloc_at]; done) | (simp (disch := (first | (simp; done) | (simp; omega))) [World.cell?_alloc_past]; done) | (simp (disch := (first | (simp; done) | (simp; omega))) [World.cell?_alloc_at, World.cell?_alloc_past]; done) | (simp (disch := (first | (simp; done) | (simp; omega))) [World.frozen?_alloc_at]; done) | (simp (disch := (first | (simp; done) | (simp; omega))) [World.frozen?_alloc_past]; done) | (simp (disch := (first | (simp; done) | (simp; omega))) [World.frozen?_alloc_at, World.frozen?_alloc_past]; done))
  clear ew1
  go_wp2_with fail
  refine (szCoder_c w1 a0 A1 n1 cap1 1048576 (by omega) (by omega) (by omega)).mono ?_
  rintro e w2 ⟨rfl, hb2⟩
  have c3 := (hb2.cell (p := ⟨w.heap.size, 0, none⟩) (by simp only []; omega)).trans c1
  clear c1
  have c4 := (hb2.cell (p := ⟨w.heap.size, 1, none⟩) (by simp only []; omega)).trans c2
  clear c2
  have Bw2 : Below w.heap.size w w2 := Bw1.trans (hb2.mono Bw1.size)
  have zw2 := hb2.size
  have sq := szr_bd (left := 1048576) (by omega) (by omega) n1
  obtain ⟨q1, hq1⟩ : ∃ q, szr 1048576 n1 = q := ⟨_, rfl⟩
  rw [hq1] at sq ⊢
  clear hq1
  rcases sq with ⟨sq, rfl⟩ | ⟨sq, sq1, sq2⟩
  · go_wp2
    go_ret
    exact ⟨rfl, Bw2⟩
  have hn1 : n1 ≤ 1048576 := by omega
  go_wp2_with fail
  refine (szFloat32SS_c w2 w.heap.size A2 n2 cap2 x2 q1 sq sq1 hl2 (by omega) hq2 (hx2.below Bw2)).mono ?_
  rintro e w3 ⟨q2, rfl, sq, rfl⟩
  rcases sq with rfl | ⟨sq, sq1, hn2, hr2⟩
  · go_wp2
    go_ret
    exact ⟨rfl, Bw2⟩
  go_wp2_with fail
  refine (toCoder_c w2 a0 A1 n1 cap1 x1 hl1 hn1 ((hx1.below Bw2).more Bw2.size)).mono ?_
  rintro e w4 ⟨v1, rfl, ho4, hb4⟩
  have c5 := (hb4.cell (p := ⟨w.heap.size, 0, none⟩) (by simp only []; omega)).trans c3
  clear c3
  have c6 := (hb4.cell (p := ⟨w.heap.size, 1, none⟩) (by simp only []; omega)).trans c4
  clear c4
  have Bw4 : Below w.heap.size w w4 := Bw2.trans (hb4.mono Bw2.size)
  have zw4 := hb4.size
  obtain ⟨S1, k1, rfl, hp1⟩ := ho4.opn
  rw [hl1] at hp1 ⊢
  clear ho4
  have hi1 := Lib.hid (own_in hp1)
  go_wp2_with fail
  refine (toFloat32SS_c w4 A2 n2 cap2 x2 hl2 hn2 hr2 ((hx2.below Bw4).more Bw4.size)).mono ?_
  rintro e w5 ⟨v, y5, rfl, hd5, hq5, ho5, hb5⟩
  have hp1 := own_below hp1 hb5 (Nat.le_refl _)
  have c7 := (hb5.cell (p := ⟨w.heap.size, 0, none⟩) (by simp only []; omega)).trans c5
  clear c5
  have c8 := (hb5.cell (p := ⟨w.heap.size, 1, none⟩) (by simp only []; omega)).trans c6
  clear c6
  have Bw5 : Below w.heap.size w w5 := Bw4.trans (hb5.mono Bw4.size)
  have zw5 := hb5.size
  have hyl5 : y5.length = n2 := by rw [rows_lenF hd5, hl2]
  have hyr5 := rows_shortF hd5 hr2
  have hI5 := Lib.hid (fun y hy => own_in (hq5 y hy))
  obtain ⟨S2, k2, rfl, hp2⟩ := ho5.opn
  rw [hyl5] at hp2 ⊢
  clear ho5
  have hi2 := Lib.hid (own_in hp2)
  have hrw6 := fun y hy => rowA_of (hq5 y hy)
  go_wp2_with fail
  refine (spec_WaysShared_c w5 a0 S1 n1 k1 x1 hl1 hn1 (sl_of_own hp1) S2 n2 k2 y5 hyl5 hn2 hyr5 (sl2_of_ownF hp2 hq5) hrw6 a3).mono ?_
  rintro e w6 ⟨v6, u6, rfl, hu6, hq6, hs6, ho6, hb6⟩
  have hp1 := own_below hp1 hb6 (Nat.le_refl _)
  have hp2 := own_below hp2 hb6 (Nat.le_refl _)
  have hq5 := fun y hy => own_below (hq5 y hy) hb6 (Nat.le_refl _)
  have c9 := (hb6.cell (p := ⟨w.heap.size, 0, none⟩) (by simp only []; omega)).trans c7
  clear c7
  have c10 := (hb6.cell (p := ⟨w.heap.size, 1, none⟩) (by simp only []; omega)).trans c8
  clear c8
  have Bw6 : Below w.heap.size w w6 := Bw5.trans (hb6.mono Bw5.size)
  have zw6 := hb6.size
  rw [hd5] at hu6 ⊢
  have hul6 : u6.length ≤ 8 := by have h1 := congrArg List.length hu6; rw [dat_lenB] at h1; have h2 := waysL_len a0 x1 (datF x2) a3; omega
  have hur6 : ∀ y ∈ u6, y.2.2.length ≤ 1048576 := fun y hy => Nat.le_trans (waysL_row a0 x1 (datF x2) a3 y.2.2 (by rw [← hu6]; unfold datB; exact List.mem_map_of_mem hy)) (by decide)
  have hun6 : u6.length = (waysL a0 x1 (datF x2) a3).length := by have h1 := congrArg List.length hu6; rw [dat_lenB] at h1; exact h1
  have HU6 := Lib.hid hu6
  have HS6 := Lib.hid hs6
  clear hu6 hs6 hrw6
  have hI6 := Lib.hid (fun y hy => own_in (hq6 y hy))
  obtain ⟨S3, k3, rfl, hp3⟩ := ho6.opn
  rw [hun6] at hp3 ⊢
  clear ho6
  have hi3 := Lib.hid (own_in hp3)
  have HUN6 := Lib.hid hun6
  clear hun6
  go_wp2_with fail
  refine (toCoder_c w6 a0 A1 n1 cap1 x1 hl1 hn1 ((hx1.below Bw6).more Bw6.size)).mono ?_
  rintro e w7 ⟨v1, rfl, ho7, hb7⟩
  have hp1 := own_below hp1 hb7 (Nat.le_refl _)
  have hp2 := own_below hp2 hb7 (Nat.le_refl _)
  have hp3 := own_below hp3 hb7 (Nat.le_refl _)
  have hq5 := fun y hy => own_below (hq5 y hy) hb7 (Nat.le_refl _)
  have hq6 := fun y hy => own_below (hq6 y hy) hb7 (Nat.le_refl _)
  have c11 := (hb7.cell (p := ⟨w.heap.size, 0, none⟩) (by simp only []; omega)).trans c9
  clear c9
  have c12 := (hb7.cell (p := ⟨w.heap.size, 1, none⟩) (by simp only []; omega)).trans c10
  clear c10
  have Bw7 : Below w.heap.size w w7 := Bw6.trans (hb7.mono Bw6.size)
  have zw7 := hb7.size
  obtain ⟨S4, k4, rfl, hp4⟩ := ho7.opn
  rw [hl1] at hp4 ⊢
  clear ho7
  have hi4 := Lib.hid (own_in hp4)
  have lx : w.heap.size < w7.heap.size := by omega
  go_wp2_with fail
  obtain ⟨w8, ew8⟩ : ∃ q : World, q = w7.alloc (.cells #[.int .i64 a0, .slice S4 n1 k4] 31) := ⟨_, rfl⟩
  rw [← ew8]
  have hb8 : Below w7.heap.size w7 w8 := by rw [ew8]; exact (Below.refl _ _).alloc (Nat.le_refl _) _
  have d0 : w8.cell? ⟨w7.heap.size, 0, none⟩ = some (.int .i64 a0) := by rw [ew8]; (first | (simp; done) | (simp (disch := (first | (simp; done) | (simp; omega))) [World.cell?_alloc_at]; done) | (simp (disch := (first | (simp; done) | (simp; omega))) [World.cell?_alloc_past]; done) | (simp (disch := (first | (simp; done) | (simp; omega))) [World.cell?_alloc_at, World.cell?_alloc_past]; done) | (simp (disch := (first | (simp; done) | (simp; omega))) [World.frozen?_alloc_at]; done) | (simp (disch := (first | (simp; done) | (simp; omega))) [World.frozen?_alloc_past]; done) | (simp (disch := (first | (simp; done) | (simp; omega))) [World.frozen?_alloc_at, World.frozen?_alloc_past]; done))
  have d1 : w8.cell? ⟨w7.heap.size, 1, none⟩ = some (.slice S4 n1 k4) := by rw [ew8]; (first | (simp; done) | (simp (disch := (first | (simp; done) | (simp; omega))) [World.cell?_alloc_at]; done) | (simp (disch := (first | (simp; done) | (simp; omega))) [World.cell?_alloc_past]; done) | (simp (disch := (first | (simp; done) | (simp; omega))) [World.cell?_alloc_at, World.cell?_alloc_past]; done) | (simp (disch := (first | (simp; done) | (simp; omega))) [World.frozen?_alloc_at]; done) | (simp (disch := (first | (simp; done) | (simp; omega))) [World.frozen?_alloc_past]; done) | (simp (disch := (first | (simp; done) | (simp; omega))) [World.frozen?_alloc_at, World.frozen?_alloc_past]; done))
  have yw8 : w8.heap.size = w7.heap.size + 1 := by rw [ew8]; simp
  clear ew8
  have hp1 := own_below hp1 hb8 (Nat.le_refl _)
  have hp2 := own_below hp2 hb8 (Nat.le_refl _)
  have hp3 := own_below hp3 hb8 (Nat.le_refl _)
  have hp4 := own_below hp4 hb8 (Nat.le_refl _)
  have hq5 := fun y hy => own_below (hq5 y hy) hb8 (Nat.le_refl _)
  have hq6 := fun y hy => own_below (hq6 y hy) hb8 (Nat.le_refl _)
  have c13 := (hb8.cell (p := ⟨w.heap.size, 0, none⟩) (by simp only []; omega)).trans c11
  clear c11
  have c14 := (hb8.cell (p := ⟨w.heap.size, 1, none⟩) (by simp only []; omega)).trans c12
  clear c12
  have Bw8 : Below w.heap.size w w8 := Bw7.trans (hb8.mono Bw7.size)
  have zw8 := hb8.size
  go_wp2_with fail
  refine (toFloat32SS_c w8 A2 n2 cap2 x2 hl2 hn2 hr2 ((hx2.below Bw8).more Bw8.size)).mono ?_
  rintro e w9 ⟨v, y9, rfl, hd9, hq9, ho9, hb9⟩
  have hp1 := own_below hp1 hb9 (Nat.le_refl _)
  have hp2 := own_below hp2 hb9 (Nat.le_refl _)
  have hp3 := own_below hp3 hb9 (Nat.le_refl _)
  have hp4 := own_below hp4 hb9 (Nat.le_refl _)
  have hq5 := fun y hy => own_below (hq5 y hy) hb9 (Nat.le_refl _)
  have hq6 := fun y hy => own_below (hq6 y hy) hb9 (Nat.le_refl _)
  have c15 := (hb9.cell (p := ⟨w.heap.size, 0, none⟩) (by simp only []; omega)).trans c13
  clear c13
  have c16 := (hb9.cell (p := ⟨w.heap.size, 1, none⟩) (by simp only []; omega)).trans c14
  clear c14
  have c17 := (hb9.cell (p := ⟨w7.heap.size, 0, none⟩) (by simp only []; omega)).trans d0
  clear d0
  have c18 := (hb9.cell (p := ⟨w7.heap.size, 1, none⟩) (by simp only []; omega)).trans d1
  clear d1
  have Bw9 : Below w.heap.size w w9 := Bw8.trans (hb9.mono Bw8.size)
  have zw9 := hb9.size
  have hyl9 : y9.length = n2 := by rw [rows_lenF hd9, hl2]
  have hyr9 := rows_shortF hd9 hr2
  have hI9 := Lib.hid (fun y hy => own_in (hq9 y hy))
  obtain ⟨S5, k5, rfl, hp5⟩ := ho9.opn
  rw [hyl9] at hp5 ⊢
  clear ho9
  have hi5 := Lib.hid (own_in hp5)
  have hrw10 := fun y hy => rowA_of (hq9 y hy)
  go_wp2_with fail
  refine (impl_WaysShared_c w9 a0 S4 n1 k4 x1 hl1 hn1 (sl_of_own hp4) S5 n2 k5 y9 hyl9 hn2 hyr9 (sl2_of_ownF hp5 hq9) hrw10 a3).mono ?_
  rintro e w10 ⟨v10, u10, rfl, hu10, hq10, hs10, ho10, hb10⟩
  have hp1 := own_below hp1 hb10 (Nat.le_refl _)
  have hp2 := own_below hp2 hb10 (Nat.le_refl _)
  have hp3 := own_below hp3 hb10 (Nat.le_refl _)
  have hp4 := own_below hp4 hb10 (Nat.le_refl _)
  have hp5 := own_below hp5 hb10 (Nat.le_refl _)
  have hq5 := fun y hy => own_below (hq5 y hy) hb10 (Nat.le_refl _)
  have hq6 := fun y hy => own_below (hq6 y hy) hb10 (Nat.le_refl _)
  have hq9 := fun y hy => own_below (hq9 y hy) hb10 (Nat.le_refl _)
  have c19 := (hb10.cell (p := ⟨w.heap.size, 0, none⟩) (by simp only []; omega)).trans c15
  clear c15
  have c20 := (hb10.cell (p := ⟨w.heap.size, 1, none⟩) (by simp only []; omega)).trans c16
  clear c16
  have c21 := (hb10.cell (p := ⟨w7.heap.size, 0, none⟩) (by simp only []; omega)).trans c17
  clear c17
  have c22 := (hb10.cell (p := ⟨w7.heap.size, 1, none⟩) (by simp only []; omega)).trans c18
  clear c18
  have Bw10 : Below w.heap.size w w10 := Bw9.trans (hb10.mono Bw9.size)
  have zw10 := hb10.size
  rw [hd9] at hu10 ⊢
  have hul10 : u10.length ≤ 8 := by have h1 := congrArg List.length hu10; rw [dat_lenB] at h1; have h2 := waysL_len a0 x1 (datF x2) a3; omega
  have hur10 : ∀ y ∈ u10, y.2.2.length ≤ 1048576 := fun y hy => Nat.le_trans (waysL_row a0 x1 (datF x2) a3 y.2.2 (by rw [← hu10]; unfold datB; exact List.mem_map_of_mem hy)) (by decide)
  have hun10 : u10.length = (waysL a0 x1 (datF x2) a3).length := by have h1 := congrArg List.length hu10; rw [dat_lenB] at h1; exact h1
  have HU10 := Lib.hid hu10
  have HS10 := Lib.hid hs10
  clear hu10 hs10 hrw10
  have hI10 := Lib.hid (fun y hy => own_in (hq10 y hy))
  obtain ⟨S6, k6, rfl, hp6⟩ := ho10.opn
  rw [hun10] at hp6 ⊢
  clear ho10
  have hi6 := Lib.hid (own_in hp6)
  have HUN10 := Lib.hid hun10
  clear hun10
  go_wp2_with fail
  have he11 : datB u10 = datB u6 := by rw [HU10.out, HU6.out]
  go_wp2_with fail
  refine (calls_grow (eqBoolSS_t w10 S6 S3 (waysL a0 x1 (datF x2) a3).length k6 k3 _ _ u10 u6 he11 HUN10.out (Nat.le_trans hwl (by decide)) hur10 (sl2_of_ownB hp6 hq10) (sl2_of_ownB hp3 hq6))).mono ?_
  rintro e w11 ⟨rfl, hb11⟩
  have hp1 := own_below hp1 hb11 (Nat.le_refl _)
  have hp2 := own_below hp2 hb11 (Nat.le_refl _)
  have hp3 := own_below hp3 hb11 (Nat.le_refl _)
  have hp4 := own_below hp4 hb11 (Nat.le_refl _)
  have hp5 := own_below hp5 hb11 (Nat.le_refl _)
  have hp6 := own_below hp6 hb11 (Nat.le_refl _)
  have hq5 := fun y hy => own_below (hq5 y hy) hb11 (Nat.le_refl _)
  have hq6 := fun y hy => own_below (hq6 y hy) hb11 (Nat.le_refl _)
  have hq9 := fun y hy => own_below (hq9 y hy) hb11 (Nat.le_refl _)
  have hq10 := fun y hy => own_below (hq10 y hy) hb11 (Nat.le_refl _)
  have c23 := (hb11.cell (p := ⟨w.heap.size, 0, none⟩) (by simp only []; omega)).trans c19
  clear c19
  have c24 := (hb11.cell (p := ⟨w.heap.size, 1, none⟩) (by simp only []; omega)).trans c20
  clear c20
  have c25 := (hb11.cell (p := ⟨w7.heap.size, 0, none⟩) (by simp only []; omega)).trans c21
  clear c21
  have c26 := (hb11.cell (p := ⟨w7.heap.size, 1, none⟩) (by simp only []; omega)).trans c22
  clear c22
  have Bw11 : Below w.heap.size w w11 := Bw10.trans (hb11.mono Bw10.size)
  have zw11 := hb11.size
  clear he11
  go_wp2_with fail
  go_region_held3 (fun w' => w'.cell? ⟨w7.heap.size, 0, none⟩ = some (.int .i64 a0) ∧ w'.cell? ⟨w7.heap.size, 1, none⟩ = some (.slice S4 n1 k4) ∧ w'.cell? ⟨w.heap.size, 0, none⟩ = some (.int .i64 a0) ∧ w'.cell? ⟨w.heap.size, 1, none⟩ = some (.slice A1 n1 cap1))
    (first | exact ⟨c33, c34, c31, c32⟩ | exact ⟨c29, c30, c27, c28⟩ | exact ⟨c25, c26, c23, c24⟩)
    (first
      | (go_at_call 13; refine (eqCoder_t w12 a0 S4 S7 n1 k4 k7 x1 hl1 (Nat.le_trans hn1 (by decide)) (sl_of_own hp4) (sl_of_own hp7)).mono ?_; rintro e w13 ⟨rfl, hb13⟩; have hp1 := own_below hp1 hb13 (Nat.le_refl _); have hp2 := own_below hp2 hb13 (Nat.le_refl _); have hp3 := own_below hp3 hb13 (Nat.le_refl _); have hp4 := own_below hp4 hb13 (Nat.le_refl _); have hp5 := own_below hp5 hb13 (Nat.le_refl _); have hp6 := own_below hp6 hb13 (Nat.le_refl _); have hp7 := own_below hp7 hb13 (Nat.le_refl _); have hq5 := fun y hy => own_below (hq5 y hy) hb13 (Nat.le_refl _); have hq6 := fun y hy => own_below (hq6 y hy) hb13 (Nat.le_refl _); have hq9 := fun y hy => own_below (hq9 y hy) hb13 (Nat.le_refl _); have hq10 := fun y hy => own_below (hq10 y hy) hb13 (Nat.le_refl _); have c31 := (hb13.cell (p := ⟨w.heap.size, 0, none⟩) (by simp only []; omega)).trans c27; have c32 := (hb13.cell (p := ⟨w.heap.size, 1, none⟩) (by simp only []; omega)).trans c28; have c33 := (hb13.cell (p := ⟨w7.heap.size, 0, none⟩) (by simp only []; omega)).trans c29; have c34 := (hb13.cell (p := ⟨w7.heap.size, 1, none⟩) (by simp only []; omega)).trans c30; have Bw13 : Below w.heap.size w w13 := Bw12.trans (hb13.mono Bw12.size); have zw13 := hb13.size)
      | (go_at_call 8; refine (toCoder_c w11.drew a0 A1 n1 cap1 x1 hl1 hn1 ((hx1.below Bw11).more Bw11.size)).mono ?_; rintro e w12 ⟨v1, rfl, ho12, hb12⟩; have hb12 := below_undrew hb12; have zd12 : w11.drew.heap.size = w11.heap.size := rfl; have hp1 := own_below hp1 hb12 (Nat.le_refl _); have hp2 := own_below hp2 hb12 (Nat.le_refl _); have hp3 := own_below hp3 hb12 (Nat.le_refl _); have hp4 := own_below hp4 hb12 (Nat.le_refl _); have hp5 := own_below hp5 hb12 (Nat.le_refl _); have hp6 := own_below hp6 hb12 (Nat.le_refl _); have hq5 := fun y hy => own_below (hq5 y hy) hb12 (Nat.le_refl _); have hq6 := fun y hy => own_below (hq6 y hy) hb12 (Nat.le_refl _); have hq9 := fun y hy => own_below (hq9 y hy) hb12 (Nat.le_refl _); have hq10 := fun y hy => own_below (hq10 y hy) hb12 (Nat.le_refl _); have c27 := (hb12.cell (p := ⟨w.heap.size, 0, none⟩) (by simp only []; omega)).trans c23; have c28 := (hb12.cell (p := ⟨w.heap.size, 1, none⟩) (by simp only []; omega)).trans c24; have c29 := (hb12.cell (p := ⟨w7.heap.size, 0, none⟩) (by simp only []; omega)).trans c25; have c30 := (hb12.cell (p := ⟨w7.heap.size, 1, none⟩) (by simp only []; omega)).trans c26; have Bw12 : Below w.heap.size w w12 := Bw11.trans (hb12.mono Bw11.size); have zw12 := hb12.size; obtain ⟨S7, k7, rfl, hp7⟩ := ho12.opn; rw [hl1] at hp7 ⊢; clear ho12; have hi7 := Lib.hid (own_in hp7)))
  go_wp2_with fail
  refine (toFloat32SS_c w13 A2 n2 cap2 x2 hl2 hn2 hr2 ((hx2.below Bw13).more Bw13.size)).mono ?_
  rintro e w14 ⟨v, y14, rfl, hd14, hq14, ho14, hb14⟩
  have hp1 := own_below hp1 hb14 (Nat.le_refl _)
  have hp2 := own_below hp2 hb14 (Nat.le_refl _)
  have hp3 := own_below hp3 hb14 (Nat.le_refl _)
  have hp4 := own_below hp4 hb14 (Nat.le_refl _)
  have hp5 := own_below hp5 hb14 (Nat.le_refl _)
  have hp6 := own_below hp6 hb14 (Nat.le_refl _)
  have hp7 := own_below hp7 hb14 (Nat.le_refl _)
  have hq5 := fun y hy => own_below (hq5 y hy) hb14 (Nat.le_refl _)
  have hq6 := fun y hy => own_below (hq6 y hy) hb14 (Nat.le_refl _)
  have hq9 := fun y hy => own_below (hq9 y hy) hb14 (Nat.le_refl _)
  have hq10 := fun y hy => own_below (hq10 y hy) hb14 (Nat.le_refl _)
  have c35 := (hb14.cell (p := ⟨w.heap.size, 0, none⟩) (by simp only []; omega)).trans c31
  clear c31
  have c36 := (hb14.cell (p := ⟨w.heap.size, 1, none⟩) (by simp only []; omega)).trans c32
  clear c32
  have c37 := (hb14.cell (p := ⟨w7.heap.size, 0, none⟩) (by simp only []; omega)).trans c33
  clear c33
  have c38 := (hb14.cell (p := ⟨w7.heap.size, 1, none⟩) (by simp only []; omega)).trans c34
  clear c34
  have Bw14 : Below w.heap.size w w14 := Bw13.trans (hb14.mono Bw13.size)
  have zw14 := hb14.size
  have hyl14 : y14.length = n2 := by rw [rows_lenF hd14, hl2]
  have hyr14 := rows_shortF hd14 hr2
  have hI14 := Lib.hid (fun y hy => own_in (hq14 y hy))
  obtain ⟨S8, k8, rfl, hp8⟩ := ho14.opn
  rw [hyl14] at hp8 ⊢
  clear ho14
  have hi8 := Lib.hid (own_in hp8)
  go_wp2_with fail
  refine (calls_grow (eqFloat32SS_t w14 S5 S8 n2 k5 k8 _ _ y9 y14 (hd9.trans hd14.symm) hyl9 hn2 hyr9 (sl2_of_ownF hp5 hq9) (sl2_of_ownF hp8 hq14))).mono ?_
  rintro e w15 ⟨rfl, hb15⟩
  have hp1 := own_below hp1 hb15 (Nat.le_refl _)
  have hp2 := own_below hp2 hb15 (Nat.le_refl _)
  have hp3 := own_below hp3 hb15 (Nat.le_refl _)
  have hp4 := own_below hp4 hb15 (Nat.le_refl _)
  have hp5 := own_below hp5 hb15 (Nat.le_refl _)
  have hp6 := own_below hp6 hb15 (Nat.le_refl _)
  have hp7 := own_below hp7 hb15 (Nat.le_refl _)
  have hp8 := own_below hp8 hb15 (Nat.le_refl _)
  have hq5 := fun y hy => own_below (hq5 y hy) hb15 (Nat.le_refl _)
  have hq6 := fun y hy => own_below (hq6 y hy) hb15 (Nat.le_refl _)
  have hq9 := fun y hy => own_below (hq9 y hy) hb15 (Nat.le_refl _)
  have hq10 := fun y hy => own_below (hq10 y hy) hb15 (Nat.le_refl _)
  have hq14 := fun y hy => own_below (hq14 y hy) hb15 (Nat.le_refl _)
  have c39 := (hb15.cell (p := ⟨w.heap.size, 0, none⟩) (by simp only []; omega)).trans c35
  clear c35
  have c40 := (hb15.cell (p := ⟨w.heap.size, 1, none⟩) (by simp only []; omega)).trans c36
  clear c36
  have c41 := (hb15.cell (p := ⟨w7.heap.size, 0, none⟩) (by simp only []; omega)).trans c37
  clear c37
  have c42 := (hb15.cell (p := ⟨w7.heap.size, 1, none⟩) (by simp only []; omega)).trans c38
  clear c38
  have Bw15 : Below w.heap.size w w15 := Bw14.trans (hb15.mono Bw14.size)
  have zw15 := hb15.size
  go_wp2_with fail
  refine (markCoder_c _ _ a0 S4 n1 k4 _ (Nat.le_trans hn1 (by decide)) (1) (by decide) (by decide) hp4).mono ?_
  rintro e w16 ⟨rfl, -, hg16⟩
  have hs16 := Spot.of_grown hg16 hi4.out
  have hp1 := own_spot hp1 hs16 hi1.out (by omega)
  have hp2 := own_spot hp2 hs16 hi2.out (by omega)
  have hp3 := own_spot hp3 hs16 hi3.out (by omega)
  have hp5 := own_spot hp5 hs16 hi5.out (by omega)
  have hp6 := own_spot hp6 hs16 hi6.out (by omega)
  have hp7 := own_spot hp7 hs16 hi7.out (by omega)
  have hp8 := own_spot hp8 hs16 hi8.out (by omega)
  have hq5 := fun y hy => own_spot (hq5 y hy) hs16 (hI5.out y hy) (by omega)
  have hq6 := fun y hy => own_spot (hq6 y hy) hs16 (hI6.out y hy) (by omega)
  have hq9 := fun y hy => own_spot (hq9 y hy) hs16 (hI9.out y hy) (by omega)
  have hq10 := fun y hy => own_spot (hq10 y hy) hs16 (hI10.out y hy) (by omega)
  have hq14 := fun y hy => own_spot (hq14 y hy) hs16 (hI14.out y hy) (by omega)
  have c43 := (cell_spot (p := ⟨w.heap.size, 0, none⟩) hs16 (by simp only []; omega) (by simp only []; omega)).trans c39
  clear c39
  have c44 := (cell_spot (p := ⟨w.heap.size, 1, none⟩) hs16 (by simp only []; omega) (by simp only []; omega)).trans c40
  clear c40
  have c45 := (cell_spot (p := ⟨w7.heap.size, 0, none⟩) hs16 (by simp only []; omega) (by simp only []; omega)).trans c41
  clear c41
  have c46 := (cell_spot (p := ⟨w7.heap.size, 1, none⟩) hs16 (by simp only []; omega) (by simp only []; omega)).trans c42
  clear c42
  have Bw16 : Below w.heap.size w w16 := below_spot Bw15 hs16 (by omega) (by omega)
  have zw16 := hs16.size
  go_wp2_with fail
  refine (markFloat32SS_c _ _ _ _ S5 n2 k5 y9 hyl9 hn2 hyr9 (1 + (n1 : Nat)) (by omega) (by omega) hp5 (fun y hy => ⟨_, hq9 y hy⟩) hI9.out).mono ?_
  rintro e w17 ⟨qm, rfl, hqm0, hqm1, hs17⟩
  have hp1 := own_spot hp1 hs17 hi1.out (by omega)
  have hp2 := own_spot hp2 hs17 hi2.out (by omega)
  have hp3 := own_spot hp3 hs17 hi3.out (by omega)
  have hp6 := own_spot hp6 hs17 hi6.out (by omega)
  have hp7 := own_spot hp7 hs17 hi7.out (by omega)
  have hp8 := own_spot hp8 hs17 hi8.out (by omega)
  have hq5 := fun y hy => own_spot (hq5 y hy) hs17 (hI5.out y hy) (by omega)
  have hq6 := fun y hy => own_spot (hq6 y hy) hs17 (hI6.out y hy) (by omega)
  have hq10 := fun y hy => own_spot (hq10 y hy) hs17 (hI10.out y hy) (by omega)
  have hq14 := fun y hy => own_spot (hq14 y hy) hs17 (hI14.out y hy) (by omega)
  have c47 := (cell_spot (p := ⟨w.heap.size, 0, none⟩) hs17 (by simp only []; omega) (by simp only []; omega)).trans c43
  clear c43
  have c48 := (cell_spot (p := ⟨w.heap.size, 1, none⟩) hs17 (by simp only []; omega) (by simp only []; omega)).trans c44
  clear c44
  have c49 := (cell_spot (p := ⟨w7.heap.size, 0, none⟩) hs17 (by simp only []; omega) (by simp only []; omega)).trans c45
  clear c45
  have c50 := (cell_spot (p := ⟨w7.heap.size, 1, none⟩) hs17 (by simp only []; omega) (by simp only []; omega)).trans c46
  clear c46
  have Bw17 : Below w.heap.size w w17 := below_spot Bw16 hs17 (by omega) (by omega)
  have zw17 := hs17.size
  go_wp2_with fail
  have he18 : datB u10 = datB u6 := by rw [HU10.out, HU6.out]
  go_wp2_with fail
  refine (calls_grow (eqBoolSS_t w17 S6 S3 (waysL a0 x1 (datF x2) a3).length k6 k3 _ _ u10 u6 he18 HUN10.out (Nat.le_trans hwl (by decide)) hur10 (sl2_of_ownB hp6 hq10) (sl2_of_ownB hp3 hq6))).mono ?_
  rintro e w18 ⟨rfl, hb18⟩
  have hp1 := own_below hp1 hb18 (Nat.le_refl _)
  have hp2 := own_below hp2 hb18 (Nat.le_refl _)
  have hp3 := own_below hp3 hb18 (Nat.le_refl _)
  have hp6 := own_below hp6 hb18 (Nat.le_refl _)
  have hp7 := own_below hp7 hb18 (Nat.le_refl _)
  have hp8 := own_below hp8 hb18 (Nat.le_refl _)
  have hq5 := fun y hy => own_below (hq5 y hy) hb18 (Nat.le_refl _)
  have hq6 := fun y hy => own_below (hq6 y hy) hb18 (Nat.le_refl _)
  have hq10 := fun y hy => own_below (hq10 y hy) hb18 (Nat.le_refl _)
  have hq14 := fun y hy => own_below (hq14 y hy) hb18 (Nat.le_refl _)
  have c51 := (hb18.cell (p := ⟨w.heap.size, 0, none⟩) (by simp only []; omega)).trans c47
  clear c47
  have c52 := (hb18.cell (p := ⟨w.heap.size, 1, none⟩) (by simp only []; omega)).trans c48
  clear c48
  have c53 := (hb18.cell (p := ⟨w7.heap.size, 0, none⟩) (by simp only []; omega)).trans c49
  clear c49
  have c54 := (hb18.cell (p := ⟨w7.heap.size, 1, none⟩) (by simp only []; omega)).trans c50
  clear c50
  have Bw18 : Below w.heap.size w w18 := Bw17.trans (hb18.mono Bw17.size)
  have zw18 := hb18.size
  clear he18
  go_wp2_with fail
  refine (markBoolSS_c _ _ _ _ _ S6 (waysL a0 x1 (datF x2) a3).length k6 u10 HUN10.out hwl hur10 (1) (by decide) (by decide) hp6 hq10 HS10.out hI10.out).mono ?_
  rintro e w19 ⟨rfl, ho19, hm19, hs19⟩
  have hp1 := own_spot hp1 hs19 hi1.out (by omega)
  have hp2 := own_spot hp2 hs19 hi2.out (by omega)
  have hp3 := own_spot hp3 hs19 hi3.out (by omega)
  have hp7 := own_spot hp7 hs19 hi7.out (by omega)
  have hp8 := own_spot hp8 hs19 hi8.out (by omega)
  have hq5 := fun y hy => own_spot (hq5 y hy) hs19 (hI5.out y hy) (by omega)
  have hq6 := fun y hy => own_spot (hq6 y hy) hs19 (hI6.out y hy) (by omega)
  have hq14 := fun y hy => own_spot (hq14 y hy) hs19 (hI14.out y hy) (by omega)
  have c55 := (cell_spot (p := ⟨w.heap.size, 0, none⟩) hs19 (by simp only []; omega) (by simp only []; omega)).trans c51
  clear c51
  have c56 := (cell_spot (p := ⟨w.heap.size, 1, none⟩) hs19 (by simp only []; omega) (by simp only []; omega)).trans c52
  clear c52
  have c57 := (cell_spot (p := ⟨w7.heap.size, 0, none⟩) hs19 (by simp only []; omega) (by simp only []; omega)).trans c53
  clear c53
  have c58 := (cell_spot (p := ⟨w7.heap.size, 1, none⟩) hs19 (by simp only []; omega) (by simp only []; omega)).trans c54
  clear c54
  have Bw19 : Below w.heap.size w w19 := below_spot Bw18 hs19 (by omega) (by omega)
  have zw19 := hs19.size
  have hp6 := ho19
  clear ho19
  have hkb := kAllB_bd u10 1 hur10
  go_wp2_with fail
  refine (calls_grow (heldBoolSS_c _ _ _ S6 (waysL a0 x1 (datF x2) a3).length k6 u10 HUN10.out hwl hur10 (1) (by decide) (by decide) hp6 hm19)).mono ?_
  rintro e w20 ⟨rfl, hb20⟩
  have hp1 := own_below hp1 hb20 (Nat.le_refl _)
  have hp2 := own_below hp2 hb20 (Nat.le_refl _)
  have hp3 := own_below hp3 hb20 (Nat.le_refl _)
  have hp7 := own_below hp7 hb20 (Nat.le_refl _)
  have hp8 := own_below hp8 hb20 (Nat.le_refl _)
  have hp6 := own_below hp6 hb20 (Nat.le_refl _)
  have hq5 := fun y hy => own_below (hq5 y hy) hb20 (Nat.le_refl _)
  have hq6 := fun y hy => own_below (hq6 y hy) hb20 (Nat.le_refl _)
  have hq14 := fun y hy => own_below (hq14 y hy) hb20 (Nat.le_refl _)
  have hm19 := hm19.below hb20 (Nat.le_refl _)
  have c59 := (hb20.cell (p := ⟨w.heap.size, 0, none⟩) (by simp only []; omega)).trans c55
  clear c55
  have c60 := (hb20.cell (p := ⟨w.heap.size, 1, none⟩) (by simp only []; omega)).trans c56
  clear c56
  have c61 := (hb20.cell (p := ⟨w7.heap.size, 0, none⟩) (by simp only []; omega)).trans c57
  clear c57
  have c62 := (hb20.cell (p := ⟨w7.heap.size, 1, none⟩) (by simp only []; omega)).trans c58
  clear c58
  have Bw20 : Below w.heap.size w w20 := Bw19.trans (hb20.mono Bw19.size)
  have zw20 := hb20.size
  go_wp2_with fail
  refine (toCoder_c w20 a0 A1 n1 cap1 x1 hl1 hn1 ((hx1.below Bw20).more Bw20.size)).mono ?_
  rintro e w21 ⟨v1, rfl, ho21, hb21⟩
  have hp1 := own_below hp1 hb21 (Nat.le_refl _)
  have hp2 := own_below hp2 hb21 (Nat.le_refl _)
  have hp3 := own_below hp3 hb21 (Nat.le_refl _)
  have hp7 := own_below hp7 hb21 (Nat.le_refl _)
  have hp8 := own_below hp8 hb21 (Nat.le_refl _)
  have hp6 := own_below hp6 hb21 (Nat.le_refl _)
  have hq5 := fun y hy => own_below (hq5 y hy) hb21 (Nat.le_refl _)
  have hq6 := fun y hy => own_below (hq6 y hy) hb21 (Nat.le_refl _)
  have hq14 := fun y hy => own_below (hq14 y hy) hb21 (Nat.le_refl _)
  have hm19 := hm19.below hb21 (Nat.le_refl _)
  have c63 := (hb21.cell (p := ⟨w.heap.size, 0, none⟩) (by simp only []; omega)).trans c59
  clear c59
  have c64 := (hb21.cell (p := ⟨w.heap.size, 1, none⟩) (by simp only []; omega)).trans c60
  clear c60
  have c65 := (hb21.cell (p := ⟨w7.heap.size, 0, none⟩) (by simp only []; omega)).trans c61
  clear c61
  have c66 := (hb21.cell (p := ⟨w7.heap.size, 1, none⟩) (by simp only []; omega)).trans c62
  clear c62
  have Bw21 : Below w.heap.size w w21 := Bw20.trans (hb21.mono Bw20.size)
  have zw21 := hb21.size
  obtain ⟨S9, k9, rfl, hp9⟩ := ho21.opn
  rw [hl1] at hp9 ⊢
  clear ho21
  have hi9 := Lib.hid (own_in hp9)
  go_wp2_with fail
  refine (toFloat32SS_c w21 A2 n2 cap2 x2 hl2 hn2 hr2 ((hx2.below Bw21).more Bw21.size)).mono ?_
  rintro e w22 ⟨v, y22, rfl, hd22, hq22, ho22, hb22⟩
  have hp1 := own_below hp1 hb22 (Nat.le_refl _)
  have hp2 := own_below hp2 hb22 (Nat.le_refl _)
  have hp3 := own_below hp3 hb22 (Nat.le_refl _)
  have hp7 := own_below hp7 hb22 (Nat.le_refl _)
  have hp8 := own_below hp8 hb22 (Nat.le_refl _)
  have hp6 := own_below hp6 hb22 (Nat.le_refl _)
  have hp9 := own_below hp9 hb22 (Nat.le_refl _)
  have hq5 := fun y hy => own_below (hq5 y hy) hb22 (Nat.le_refl _)
  have hq6 := fun y hy => own_below (hq6 y hy) hb22 (Nat.le_refl _)
  have hq14 := fun y hy => own_below (hq14 y hy) hb22 (Nat.le_refl _)
  have hm19 := hm19.below hb22 (Nat.le_refl _)
  have c67 := (hb22.cell (p := ⟨w.heap.size, 0, none⟩) (by simp only []; omega)).trans c63
  clear c63
  have c68 := (hb22.cell (p := ⟨w.heap.size, 1, none⟩) (by simp only []; omega)).trans c64
  clear c64
  have c69 := (hb22.cell (p := ⟨w7.heap.size, 0, none⟩) (by simp only []; omega)).trans c65
  clear c65
  have c70 := (hb22.cell (p := ⟨w7.heap.size, 1, none⟩) (by simp only []; omega)).trans c66
  clear c66
  have Bw22 : Below w.heap.size w w22 := Bw21.trans (hb22.mono Bw21.size)
  have zw22 := hb22.size
  have hyl22 : y22.length = n2 := by rw [rows_lenF hd22, hl2]
  have hyr22 := rows_shortF hd22 hr2
  have hI22 := Lib.hid (fun y hy => own_in (hq22 y hy))
  obtain ⟨S10, k10, rfl, hp10⟩ := ho22.opn
  rw [hyl22] at hp10 ⊢
  clear ho22
  have hi10 := Lib.hid (own_in hp10)
  have hrw23 := fun y hy => rowA_of (hq22 y hy)
  go_wp2_with fail
  refine (impl_WaysShared_c w22 a0 S9 n1 k9 x1 hl1 hn1 (sl_of_own hp9) S10 n2 k10 y22 hyl22 hn2 hyr22 (sl2_of_ownF hp10 hq22) hrw23 a3).mono ?_
  rintro e w23 ⟨v23, u23, rfl, hu23, hq23, hs23, ho23, hb23⟩
  have hp1 := own_below hp1 hb23 (Nat.le_refl _)
  have hp2 := own_below hp2 hb23 (Nat.le_refl _)
  have hp3 := own_below hp3 hb23 (Nat.le_refl _)
  have hp7 := own_below hp7 hb23 (Nat.le_refl _)
  have hp8 := own_below hp8 hb23 (Nat.le_refl _)
  have hp6 := own_below hp6 hb23 (Nat.le_refl _)
  have hp9 := own_below hp9 hb23 (Nat.le_refl _)
  have hp10 := own_below hp10 hb23 (Nat.le_refl _)
  have hq5 := fun y hy => own_below (hq5 y hy) hb23 (Nat.le_refl _)
  have hq6 := fun y hy => own_below (hq6 y hy) hb23 (Nat.le_refl _)
  have hq14 := fun y hy => own_below (hq14 y hy) hb23 (Nat.le_refl _)
  have hq22 := fun y hy => own_below (hq22 y hy) hb23 (Nat.le_refl _)
  have hm19 := hm19.below hb23 (Nat.le_refl _)
  have c71 := (hb23.cell (p := ⟨w.heap.size, 0, none⟩) (by simp only []; omega)).trans c67
  clear c67
  have c72 := (hb23.cell (p := ⟨w.heap.size, 1, none⟩) (by simp only []; omega)).trans c68
  clear c68
  have c73 := (hb23.cell (p := ⟨w7.heap.size, 0, none⟩) (by simp only []; omega)).trans c69
  clear c69
  have c74 := (hb23.cell (p := ⟨w7.heap.size, 1, none⟩) (by simp only []; omega)).trans c70
  clear c70
  have Bw23 : Below w.heap.size w w23 := Bw22.trans (hb23.mono Bw22.size)
  have zw23 := hb23.size
  rw [hd22] at hu23 ⊢
  have hul23 : u23.length ≤ 8 := by have h1 := congrArg List.length hu23; rw [dat_lenB] at h1; have h2 := waysL_len a0 x1 (datF x2) a3; omega
  have hur23 : ∀ y ∈ u23, y.2.2.length ≤ 1048576 := fun y hy => Nat.le_trans (waysL_row a0 x1 (datF x2) a3 y.2.2 (by rw [← hu23]; unfold datB; exact List.mem_map_of_mem hy)) (by decide)
  have hun23 : u23.length = (waysL a0 x1 (datF x2) a3).length := by have h1 := congrArg List.length hu23; rw [dat_lenB] at h1; exact h1
  have HU23 := Lib.hid hu23
  have HS23 := Lib.hid hs23
  clear hu23 hs23 hrw23
  have hI23 := Lib.hid (fun y hy => own_in (hq23 y hy))
  obtain ⟨S11, k11, rfl, hp11⟩ := ho23.opn
  rw [hun23] at hp11 ⊢
  clear ho23
  have hi11 := Lib.hid (own_in hp11)
  have HUN23 := Lib.hid hun23
  clear hun23
  go_wp2_with fail
  have he24 : datB u23 = datB u6 := by rw [HU23.out, HU6.out]
  go_wp2_with fail
  refine (calls_grow (eqBoolSS_t w23 S11 S3 (waysL a0 x1 (datF x2) a3).length k11 k3 _ _ u23 u6 he24 HUN23.out (Nat.le_trans hwl (by decide)) hur23 (sl2_of_ownB hp11 hq23) (sl2_of_ownB hp3 hq6))).mono ?_
  rintro e w24 ⟨rfl, hb24⟩
  have hp1 := own_below hp1 hb24 (Nat.le_refl _)
  have hp2 := own_below hp2 hb24 (Nat.le_refl _)
  have hp3 := own_below hp3 hb24 (Nat.le_refl _)
  have hp7 := own_below hp7 hb24 (Nat.le_refl _)
  have hp8 := own_below hp8 hb24 (Nat.le_refl _)
  have hp6 := own_below hp6 hb24 (Nat.le_refl _)
  have hp9 := own_below hp9 hb24 (Nat.le_refl _)
  have hp10 := own_below hp10 hb24 (Nat.le_refl _)
  have hp11 := own_below hp11 hb24 (Nat.le_refl _)
  have hq5 := fun y hy => own_below (hq5 y hy) hb24 (Nat.le_refl _)
  have hq6 := fun y hy => own_below (hq6 y hy) hb24 (Nat.le_refl _)
  have hq14 := fun y hy => own_below (hq14 y hy) hb24 (Nat.le_refl _)
  have hq22 := fun y hy => own_below (hq22 y hy) hb24 (Nat.le_refl _)
  have hq23 := fun y hy => own_below (hq23 y hy) hb24 (Nat.le_refl _)
  have hm19 := hm19.below hb24 (Nat.le_refl _)
  have c75 := (hb24.cell (p := ⟨w.heap.size, 0, none⟩) (by simp only []; omega)).trans c71
  clear c71
  have c76 := (hb24.cell (p := ⟨w.heap.size, 1, none⟩) (by simp only []; omega)).trans c72
  clear c72
  have c77 := (hb24.cell (p := ⟨w7.heap.size, 0, none⟩) (by simp only []; omega)).trans c73
  clear c73
  have c78 := (hb24.cell (p := ⟨w7.heap.size, 1, none⟩) (by simp only []; omega)).trans c74
  clear c74
  have Bw24 : Below w.heap.size w w24 := Bw23.trans (hb24.mono Bw23.size)
  have zw24 := hb24.size
  clear he24
  go_wp2_with fail
  refine (calls_grow (heldBoolSS_c _ _ _ S6 (waysL a0 x1 (datF x2) a3).length k6 u10 HUN10.out hwl hur10 (1) (by decide) (by decide) hp6 hm19)).mono ?_
  rintro e w25 ⟨rfl, hb25⟩
  have hp1 := own_below hp1 hb25 (Nat.le_refl _)
  have hp2 := own_below hp2 hb25 (Nat.le_refl _)
  have hp3 := own_below hp3 hb25 (Nat.le_refl _)
  have hp7 := own_below hp7 hb25 (Nat.le_refl _)
  have hp8 := own_below hp8 hb25 (Nat.le_refl _)
  have hp6 := own_below hp6 hb25 (Nat.le_refl _)
  have hp9 := own_below hp9 hb25 (Nat.le_refl _)
  have hp10 := own_below hp10 hb25 (Nat.le_refl _)
  have hp11 := own_below hp11 hb25 (Nat.le_refl _)
  have hq5 := fun y hy => own_below (hq5 y hy) hb25 (Nat.le_refl _)
  have hq6 := fun y hy => own_below (hq6 y hy) hb25 (Nat.le_refl _)
  have hq14 := fun y hy => own_below (hq14 y hy) hb25 (Nat.le_refl _)
  have hq22 := fun y hy => own_below (hq22 y hy) hb25 (Nat.le_refl _)
  have hq23 := fun y hy => own_below (hq23 y hy) hb25 (Nat.le_refl _)
  have hm19 := hm19.below hb25 (Nat.le_refl _)
  have c79 := (hb25.cell (p := ⟨w.heap.size, 0, none⟩) (by simp only []; omega)).trans c75
  clear c75
  have c80 := (hb25.cell (p := ⟨w.heap.size, 1, none⟩) (by simp only []; omega)).trans c76
  clear c76
  have c81 := (hb25.cell (p := ⟨w7.heap.size, 0, none⟩) (by simp only []; omega)).trans c77
  clear c77
  have c82 := (hb25.cell (p := ⟨w7.heap.size, 1, none⟩) (by simp only []; omega)).trans c78
  clear c78
  have Bw25 : Below w.heap.size w w25 := Bw24.trans (hb25.mono Bw24.size)
  have zw25 := hb25.size
  go_wp2
  go_ret
  exact ⟨rfl, Bw25⟩

end Go.Proofs.Ytlhffpjbjicfnaa
