/-
  FnExactListWords returns true for every input, and leaves its arguments as they were.
  Conditions: none beyond the given statement's own.
-/
import Derived.Test.YtlipejcmjhmnaaaH
import Derived.Deep.RegionHeld3
import Derived.Test.YtlipejcmjhmnaaaRF
import Derived.Test.YtlipejcmjhmnaaaSD
import Derived.Test.YtlipejcmjhmnaaaMP
namespace Go.Proofs.Ytlipejcmjhmnaaa
open Go.RowKit

set_option maxRecDepth 100000 in
set_option maxHeartbeats 4000000 in
theorem law_ListWords (w : World) (a0 : Int) (A1 : Option Addr) (n1 cap1 : Nat) (x1 : List Int) (a2 : Int) (a3 : Int) (hl1 : x1.length = n1) (hm1 : n1 ≤ maxLen) (hx1 : Sl w w.heap.size A1 (x1.map (Value.int .i64))) :
    Calls Try.prog 4 #[.agg #[.int .i64 a0, .slice A1 n1 cap1], .int .i64 a2, .int .i64 a3] w fun e w' => e = .returned (.bool true) ∧ Below w.heap.size w w' := by
  unfold maxLen at hm1
  have hq : ∀ b : Bool, (b == b) = true := fun b => by simp
  have hlb := listV_len a0 x1 a2 a3
  go_enter Try.func4, Try.ntmps4
  go_wp2_with fail
  obtain ⟨w1, ew1⟩ : ∃ q : World, q = (w.alloc (.cells #[.int .i64 a0, .slice A1 n1 cap1] 24)) := ⟨_, rfl⟩
  rw [← ew1]
  have Bw1 : Below w.heap.size w w1 := by rw [ew1]; exact ((Below.refl _ _).alloc (Nat.le_refl _) _)
  have zw1 : w1.heap.size = w.heap.size + 1 := by rw [ew1]; simp
  have c1 : w1.cell? ⟨w.heap.size, 0, none⟩ = some (.int .i64 a0) := by rw [ew1]; (first | (simp; done) | (simp (disch := (first | (simp; done) | (simp; omega))) [World.cell?_alloc_at]; done) | (simp (disch := (first | (simp; done) | (simp; omega))) [World.cell?_alloc_past]; done) | (simp (disch := (first | (simp; done) | (simp; omega))) [World.cell?_alloc_at, World.cell?_alloc_past]; done) | (simp (disch := (first | (simp; done) | (simp; omega))) [World.frozen?_alloc_at]; done) | (simp (disch := (first | (simp; done) | (simp; omega))) [World.frozen?_alloc_past]; done) | (simp (disch := (first | (simp; done) | (simp; omega))) [World.frozen?_alloc_at, World.frozen?_alloc_past]; done))
  have c2 : w1.cell? ⟨w.heap.size, 1, none⟩ = some (.slice A1 n1 cap1) := by rw [ew1]; (first | (simp; done) | (simp (disch := (first | (simp; done) | (simp; omega))) [World.cell?_alloc_at]; done) | (simp (disch := (first | (simp; done) | (simp; omega))) [World.cell?_alloc_past]; done) | (simp (disch := (first | (simp; done) | (simp; omega))) [World.cell?_alloc_at, World.cell?_alloc_past]; done) | (simp (disch := (first | (simp; done) | (simp; omega))) [World.frozen?_alloc_at]; done) | (simp (disch := (first | (simp; done) | (simp; omega))) [World.frozen?_alloc_past]; done) | (simp (disch := (first | (simp; done) | (simp; omega))) [World.frozen?_alloc_at, World.frozen?_alloc_past]; done))
  clear ew1
  go_wp2_with fail
  refine (szParity_c w1 a0 A1 n1 cap1 1048576 (by omega) (by omega) (by omega)).mono ?_
  rintro e w2 ⟨rfl, hb2⟩
  have c3 := (hb2.cell (p := ⟨w.heap.size, 0, none⟩) (by simp only []; omega)).trans c1
  clear c1
  have c4 := (hb2.cell (p := ⟨w.heap.size, 1, none⟩) (by simp only []; omega)).trans c2
  clear c2
  have Bw2 : Below w.heap.size w w2 := Bw1.trans (hb2.mono Bw1.size)
  have zw2 := hb2.size
  have sq2 := szr_bd (left := 1048576) (by omega) (by omega) n1
  obtain ⟨q2, hq2⟩ : ∃ q, szr 1048576 n1 = q := ⟨_, rfl⟩
  rw [hq2] at sq2 ⊢
  clear hq2
  rcases sq2 with ⟨sq2, rfl⟩ | ⟨sq2, sq21, sq22⟩
  · go_wp2
    go_ret
    exact ⟨rfl, Bw2⟩
  have hn1 : n1 ≤ 1048576 := by omega
  go_wp2_with fail
  refine (toParity_c w2 a0 A1 n1 cap1 x1 hl1 hn1 (((hx1).below Bw2).more Bw2.size)).mono ?_
  rintro e w3 ⟨v1, rfl, ho3_1, hb3⟩
  have c5 := (hb3.cell (p := ⟨w.heap.size, 0, none⟩) (by simp only []; omega)).trans c3
  clear c3
  have c6 := (hb3.cell (p := ⟨w.heap.size, 1, none⟩) (by simp only []; omega)).trans c4
  clear c4
  have Bw3 : Below w.heap.size w w3 := Bw2.trans (hb3.mono Bw2.size)
  have zw3 := hb3.size
  obtain ⟨S1, k1, rfl, hp1⟩ := ho3_1.opn
  rw [hl1] at hp1 ⊢
  clear ho3_1
  have hi1 := Lib.hid (own_in hp1)
  go_wp2_with fail
  refine (spec_ListWords_c w3 a0 S1 n1 k1 x1 hl1 hn1 (sl_of_own hp1) a2 a3).mono ?_
  rintro e w4 ⟨v0, rfl, ho4_0, hb4⟩
  have hp1 := own_below hp1 hb4 (Nat.le_refl _)
  have c7 := (hb4.cell (p := ⟨w.heap.size, 0, none⟩) (by simp only []; omega)).trans c5
  clear c5
  have c8 := (hb4.cell (p := ⟨w.heap.size, 1, none⟩) (by simp only []; omega)).trans c6
  clear c6
  have Bw4 : Below w.heap.size w w4 := Bw3.trans (hb4.mono Bw3.size)
  have zw4 := hb4.size
  obtain ⟨S2, k2, rfl, hp2⟩ := ho4_0.opn
  clear ho4_0
  have hi2 := Lib.hid (own_in hp2)
  go_wp2_with fail
  refine (toParity_c w4 a0 A1 n1 cap1 x1 hl1 hn1 (((hx1).below Bw4).more Bw4.size)).mono ?_
  rintro e w5 ⟨v1, rfl, ho5_1, hb5⟩
  have hp1 := own_below hp1 hb5 (Nat.le_refl _)
  have hp2 := own_below hp2 hb5 (Nat.le_refl _)
  have c9 := (hb5.cell (p := ⟨w.heap.size, 0, none⟩) (by simp only []; omega)).trans c7
  clear c7
  have c10 := (hb5.cell (p := ⟨w.heap.size, 1, none⟩) (by simp only []; omega)).trans c8
  clear c8
  have Bw5 : Below w.heap.size w w5 := Bw4.trans (hb5.mono Bw4.size)
  have zw5 := hb5.size
  obtain ⟨S3, k3, rfl, hp3⟩ := ho5_1.opn
  rw [hl1] at hp3 ⊢
  clear ho5_1
  have hi3 := Lib.hid (own_in hp3)
  have l5_10 : w.heap.size < w5.heap.size := by omega
  go_wp2_with fail
  obtain ⟨w6, ew6⟩ : ∃ q : World, q = w5.alloc (.cells #[.int .i64 a0, .slice S3 n1 k3] 28) := ⟨_, rfl⟩
  rw [← ew6]
  have hb6 : Below w5.heap.size w5 w6 := by rw [ew6]; exact (Below.refl _ _).alloc (Nat.le_refl _) _
  have c12 : w6.cell? ⟨w5.heap.size, 0, none⟩ = some (.int .i64 a0) := by rw [ew6]; (first | (simp; done) | (simp (disch := (first | (simp; done) | (simp; omega))) [World.cell?_alloc_at]; done) | (simp (disch := (first | (simp; done) | (simp; omega))) [World.cell?_alloc_past]; done) | (simp (disch := (first | (simp; done) | (simp; omega))) [World.cell?_alloc_at, World.cell?_alloc_past]; done) | (simp (disch := (first | (simp; done) | (simp; omega))) [World.frozen?_alloc_at]; done) | (simp (disch := (first | (simp; done) | (simp; omega))) [World.frozen?_alloc_past]; done) | (simp (disch := (first | (simp; done) | (simp; omega))) [World.frozen?_alloc_at, World.frozen?_alloc_past]; done))
  have c13 : w6.cell? ⟨w5.heap.size, 1, none⟩ = some (.slice S3 n1 k3) := by rw [ew6]; (first | (simp; done) | (simp (disch := (first | (simp; done) | (simp; omega))) [World.cell?_alloc_at]; done) | (simp (disch := (first | (simp; done) | (simp; omega))) [World.cell?_alloc_past]; done) | (simp (disch := (first | (simp; done) | (simp; omega))) [World.cell?_alloc_at, World.cell?_alloc_past]; done) | (simp (disch := (first | (simp; done) | (simp; omega))) [World.frozen?_alloc_at]; done) | (simp (disch := (first | (simp; done) | (simp; omega))) [World.frozen?_alloc_past]; done) | (simp (disch := (first | (simp; done) | (simp; omega))) [World.frozen?_alloc_at, World.frozen?_alloc_past]; done))
  have yw6 : w6.heap.size = w5.heap.size + 1 := by rw [ew6]; simp
  clear ew6
  have hp1 := own_below hp1 hb6 (Nat.le_refl _)
  have hp2 := own_below hp2 hb6 (Nat.le_refl _)
  have hp3 := own_below hp3 hb6 (Nat.le_refl _)
  have c14 := (hb6.cell (p := ⟨w.heap.size, 0, none⟩) (by simp only []; omega)).trans c9
  clear c9
  have c15 := (hb6.cell (p := ⟨w.heap.size, 1, none⟩) (by simp only []; omega)).trans c10
  clear c10
  have Bw6 : Below w.heap.size w w6 := Bw5.trans (hb6.mono Bw5.size)
  have zw6 := hb6.size
  go_wp2_with fail
  refine (impl_ListWords_c w6 a0 S3 n1 k3 x1 hl1 hn1 (sl_of_own hp3) a2 a3).mono ?_
  rintro e w7 ⟨v0, rfl, ho7_0, hb7⟩
  have hp1 := own_below hp1 hb7 (Nat.le_refl _)
  have hp2 := own_below hp2 hb7 (Nat.le_refl _)
  have hp3 := own_below hp3 hb7 (Nat.le_refl _)
  have c16 := (hb7.cell (p := ⟨w.heap.size, 0, none⟩) (by simp only []; omega)).trans c14
  clear c14
  have c17 := (hb7.cell (p := ⟨w.heap.size, 1, none⟩) (by simp only []; omega)).trans c15
  clear c15
  have c18 := (hb7.cell (p := ⟨w5.heap.size, 0, none⟩) (by simp only []; omega)).trans c12
  clear c12
  have c19 := (hb7.cell (p := ⟨w5.heap.size, 1, none⟩) (by simp only []; omega)).trans c13
  clear c13
  have Bw7 : Below w.heap.size w w7 := Bw6.trans (hb7.mono Bw6.size)
  have zw7 := hb7.size
  obtain ⟨S4, k4, rfl, hp4⟩ := ho7_0.opn
  clear ho7_0
  have hi4 := Lib.hid (own_in hp4)
  go_wp2_with fail
  refine (calls_grow (eqInt64S_t w7 S4 S2 (listV a0 x1 a2 a3).length k4 k2 _ _ (listV a0 x1 a2 a3) rfl (Nat.le_trans (by omega) (by decide)) (sl_of_own hp4) (sl_of_own hp2))).mono ?_
  rintro e w8 ⟨rfl, hb8⟩
  have hp1 := own_below hp1 hb8 (Nat.le_refl _)
  have hp2 := own_below hp2 hb8 (Nat.le_refl _)
  have hp3 := own_below hp3 hb8 (Nat.le_refl _)
  have hp4 := own_below hp4 hb8 (Nat.le_refl _)
  have c20 := (hb8.cell (p := ⟨w.heap.size, 0, none⟩) (by simp only []; omega)).trans c16
  clear c16
  have c21 := (hb8.cell (p := ⟨w.heap.size, 1, none⟩) (by simp only []; omega)).trans c17
  clear c17
  have c22 := (hb8.cell (p := ⟨w5.heap.size, 0, none⟩) (by simp only []; omega)).trans c18
  clear c18
  have c23 := (hb8.cell (p := ⟨w5.heap.size, 1, none⟩) (by simp only []; omega)).trans c19
  clear c19
  have Bw8 : Below w.heap.size w w8 := Bw7.trans (hb8.mono Bw7.size)
  have zw8 := hb8.size
  go_wp2_with fail
  go_region_held3 (fun w' => w'.cell? ⟨w5.heap.size, 0, none⟩ = some (.int .i64 a0) ∧ w'.cell? ⟨w5.heap.size, 1, none⟩ = some (.slice S3 n1 k3) ∧ w'.cell? ⟨w.heap.size, 0, none⟩ = some (.int .i64 a0) ∧ w'.cell? ⟨w.heap.size, 1, none⟩ = some (.slice A1 n1 cap1))
    (first | exact ⟨c30, c31, c28, c29⟩ | exact ⟨c26, c27, c24, c25⟩ | exact ⟨c22, c23, c20, c21⟩)
    (first
      | (go_at_call 11; refine (eqParity_t w9 a0 S3 S5 n1 k3 k5 x1 hl1 (Nat.le_trans hn1 (by decide)) (sl_of_own hp3) (sl_of_own hp5)).mono ?_; rintro e w10 ⟨rfl, hb10⟩; have hp1 := own_below hp1 hb10 (Nat.le_refl _); have hp2 := own_below hp2 hb10 (Nat.le_refl _); have hp3 := own_below hp3 hb10 (Nat.le_refl _); have hp4 := own_below hp4 hb10 (Nat.le_refl _); have hp5 := own_below hp5 hb10 (Nat.le_refl _); have c28 := (hb10.cell (p := ⟨w.heap.size, 0, none⟩) (by simp only []; omega)).trans c24; have c29 := (hb10.cell (p := ⟨w.heap.size, 1, none⟩) (by simp only []; omega)).trans c25; have c30 := (hb10.cell (p := ⟨w5.heap.size, 0, none⟩) (by simp only []; omega)).trans c26; have c31 := (hb10.cell (p := ⟨w5.heap.size, 1, none⟩) (by simp only []; omega)).trans c27; have Bw10 : Below w.heap.size w w10 := Bw9.trans (hb10.mono Bw9.size); have zw10 := hb10.size)
      | (go_at_call 8; refine (toParity_c w8.drew a0 A1 n1 cap1 x1 hl1 hn1 (((hx1).below Bw8).more Bw8.size)).mono ?_; rintro e w9 ⟨v1, rfl, ho9_1, hb9⟩; have hb9 := below_undrew hb9; have zd9 : w8.drew.heap.size = w8.heap.size := rfl; have hp1 := own_below hp1 hb9 (Nat.le_refl _); have hp2 := own_below hp2 hb9 (Nat.le_refl _); have hp3 := own_below hp3 hb9 (Nat.le_refl _); have hp4 := own_below hp4 hb9 (Nat.le_refl _); have c24 := (hb9.cell (p := ⟨w.heap.size, 0, none⟩) (by simp only []; omega)).trans c20; have c25 := (hb9.cell (p := ⟨w.heap.size, 1, none⟩) (by simp only []; omega)).trans c21; have c26 := (hb9.cell (p := ⟨w5.heap.size, 0, none⟩) (by simp only []; omega)).trans c22; have c27 := (hb9.cell (p := ⟨w5.heap.size, 1, none⟩) (by simp only []; omega)).trans c23; have Bw9 : Below w.heap.size w w9 := Bw8.trans (hb9.mono Bw8.size); have zw9 := hb9.size; obtain ⟨S5, k5, rfl, hp5⟩ := ho9_1.opn; rw [hl1] at hp5 ⊢; clear ho9_1; have hi5 := Lib.hid (own_in hp5)))
  go_wp2_with fail
  refine (markParity_c _ _ a0 S3 n1 k3 _ (Nat.le_trans hn1 (by decide)) (1) (by decide) (by decide) hp3).mono ?_
  rintro e w11 ⟨rfl, ho, hg11⟩
  have hp1 := own_apart hp1 hg11 hi1.out hi3.out (by omega)
  have hp2 := own_apart hp2 hg11 hi2.out hi3.out (by omega)
  have hp4 := own_apart hp4 hg11 hi4.out hi3.out (by omega)
  have hp5 := own_apart hp5 hg11 hi5.out hi3.out (by omega)
  have c32 := (cell_apart (p := ⟨w.heap.size, 0, none⟩) hg11 hi3.out (by simp only []; omega) (by simp only []; omega)).trans c28
  clear c28
  have c33 := (cell_apart (p := ⟨w.heap.size, 1, none⟩) hg11 hi3.out (by simp only []; omega) (by simp only []; omega)).trans c29
  clear c29
  have c34 := (cell_apart (p := ⟨w5.heap.size, 0, none⟩) hg11 hi3.out (by simp only []; omega) (by simp only []; omega)).trans c30
  clear c30
  have c35 := (cell_apart (p := ⟨w5.heap.size, 1, none⟩) hg11 hi3.out (by simp only []; omega) (by simp only []; omega)).trans c31
  clear c31
  have hp3 := ho
  clear ho
  have Bw11 : Below w.heap.size w w11 := below_marked Bw10 hg11 hi3.out (by omega) (by omega)
  have zw11 := hg11.size
  have hk11 : (0 : Int) ≤ 1 + (n1 : Nat) := by omega
  go_wp2_with fail
  refine (calls_grow (eqInt64S_t w11 S4 S2 (listV a0 x1 a2 a3).length k4 k2 _ _ (listV a0 x1 a2 a3) rfl (Nat.le_trans (by omega) (by decide)) (sl_of_own hp4) (sl_of_own hp2))).mono ?_
  rintro e w12 ⟨rfl, hb12⟩
  have hp1 := own_below hp1 hb12 (Nat.le_refl _)
  have hp2 := own_below hp2 hb12 (Nat.le_refl _)
  have hp3 := own_below hp3 hb12 (Nat.le_refl _)
  have hp4 := own_below hp4 hb12 (Nat.le_refl _)
  have hp5 := own_below hp5 hb12 (Nat.le_refl _)
  have c36 := (hb12.cell (p := ⟨w.heap.size, 0, none⟩) (by simp only []; omega)).trans c32
  clear c32
  have c37 := (hb12.cell (p := ⟨w.heap.size, 1, none⟩) (by simp only []; omega)).trans c33
  clear c33
  have c38 := (hb12.cell (p := ⟨w5.heap.size, 0, none⟩) (by simp only []; omega)).trans c34
  clear c34
  have c39 := (hb12.cell (p := ⟨w5.heap.size, 1, none⟩) (by simp only []; omega)).trans c35
  clear c35
  have Bw12 : Below w.heap.size w w12 := Bw11.trans (hb12.mono Bw11.size)
  have zw12 := hb12.size
  go_wp2_with fail
  refine (markInt64S_c _ _ S4 (listV a0 x1 a2 a3).length k4 _ (Nat.le_trans (by omega) (by decide)) (1) (by decide) (by decide) hp4).mono ?_
  rintro e w13 ⟨rfl, ho, hg13⟩
  have hp1 := own_apart hp1 hg13 hi1.out hi4.out (by omega)
  have hp2 := own_apart hp2 hg13 hi2.out hi4.out (by omega)
  have hp3 := own_apart hp3 hg13 hi3.out hi4.out (by omega)
  have hp5 := own_apart hp5 hg13 hi5.out hi4.out (by omega)
  have c40 := (cell_apart (p := ⟨w.heap.size, 0, none⟩) hg13 hi4.out (by simp only []; omega) (by simp only []; omega)).trans c36
  clear c36
  have c41 := (cell_apart (p := ⟨w.heap.size, 1, none⟩) hg13 hi4.out (by simp only []; omega) (by simp only []; omega)).trans c37
  clear c37
  have c42 := (cell_apart (p := ⟨w5.heap.size, 0, none⟩) hg13 hi4.out (by simp only []; omega) (by simp only []; omega)).trans c38
  clear c38
  have c43 := (cell_apart (p := ⟨w5.heap.size, 1, none⟩) hg13 hi4.out (by simp only []; omega) (by simp only []; omega)).trans c39
  clear c39
  have hp4 := ho
  clear ho
  have Bw13 : Below w.heap.size w w13 := below_marked Bw12 hg13 hi4.out (by omega) (by omega)
  have zw13 := hg13.size
  have hk13 : (0 : Int) ≤ 1 + ((listV a0 x1 a2 a3).length : Nat) := by omega
  go_wp2_with fail
  refine (calls_grow (heldInt64S_c _ _ S4 (listV a0 x1 a2 a3).length k4 (Nat.le_trans (by omega) (by decide)) (1) (by decide) (by decide) (sl_of_own hp4))).mono ?_
  rintro e w14 ⟨rfl, hb14⟩
  have hp1 := own_below hp1 hb14 (Nat.le_refl _)
  have hp2 := own_below hp2 hb14 (Nat.le_refl _)
  have hp3 := own_below hp3 hb14 (Nat.le_refl _)
  have hp4 := own_below hp4 hb14 (Nat.le_refl _)
  have hp5 := own_below hp5 hb14 (Nat.le_refl _)
  have c44 := (hb14.cell (p := ⟨w.heap.size, 0, none⟩) (by simp only []; omega)).trans c40
  clear c40
  have c45 := (hb14.cell (p := ⟨w.heap.size, 1, none⟩) (by simp only []; omega)).trans c41
  clear c41
  have c46 := (hb14.cell (p := ⟨w5.heap.size, 0, none⟩) (by simp only []; omega)).trans c42
  clear c42
  have c47 := (hb14.cell (p := ⟨w5.heap.size, 1, none⟩) (by simp only []; omega)).trans c43
  clear c43
  have Bw14 : Below w.heap.size w w14 := Bw13.trans (hb14.mono Bw13.size)
  have zw14 := hb14.size
  have hk14 : (0 : Int) ≤ 1 + ((listV a0 x1 a2 a3).length : Nat) := by omega
  go_wp2_with fail
  refine (toParity_c w14 a0 A1 n1 cap1 x1 hl1 hn1 (((hx1).below Bw14).more Bw14.size)).mono ?_
  rintro e w15 ⟨v1, rfl, ho15_1, hb15⟩
  have hp1 := own_below hp1 hb15 (Nat.le_refl _)
  have hp2 := own_below hp2 hb15 (Nat.le_refl _)
  have hp3 := own_below hp3 hb15 (Nat.le_refl _)
  have hp4 := own_below hp4 hb15 (Nat.le_refl _)
  have hp5 := own_below hp5 hb15 (Nat.le_refl _)
  have c48 := (hb15.cell (p := ⟨w.heap.size, 0, none⟩) (by simp only []; omega)).trans c44
  clear c44
  have c49 := (hb15.cell (p := ⟨w.heap.size, 1, none⟩) (by simp only []; omega)).trans c45
  clear c45
  have c50 := (hb15.cell (p := ⟨w5.heap.size, 0, none⟩) (by simp only []; omega)).trans c46
  clear c46
  have c51 := (hb15.cell (p := ⟨w5.heap.size, 1, none⟩) (by simp only []; omega)).trans c47
  clear c47
  have Bw15 : Below w.heap.size w w15 := Bw14.trans (hb15.mono Bw14.size)
  have zw15 := hb15.size
  obtain ⟨S6, k6, rfl, hp6⟩ := ho15_1.opn
  rw [hl1] at hp6 ⊢
  clear ho15_1
  have hi6 := Lib.hid (own_in hp6)
  go_wp2_with fail
  refine (impl_ListWords_c w15 a0 S6 n1 k6 x1 hl1 hn1 (sl_of_own hp6) a2 a3).mono ?_
  rintro e w16 ⟨v0, rfl, ho16_0, hb16⟩
  have hp1 := own_below hp1 hb16 (Nat.le_refl _)
  have hp2 := own_below hp2 hb16 (Nat.le_refl _)
  have hp3 := own_below hp3 hb16 (Nat.le_refl _)
  have hp4 := own_below hp4 hb16 (Nat.le_refl _)
  have hp5 := own_below hp5 hb16 (Nat.le_refl _)
  have hp6 := own_below hp6 hb16 (Nat.le_refl _)
  have c52 := (hb16.cell (p := ⟨w.heap.size, 0, none⟩) (by simp only []; omega)).trans c48
  clear c48
  have c53 := (hb16.cell (p := ⟨w.heap.size, 1, none⟩) (by simp only []; omega)).trans c49
  clear c49
  have c54 := (hb16.cell (p := ⟨w5.heap.size, 0, none⟩) (by simp only []; omega)).trans c50
  clear c50
  have c55 := (hb16.cell (p := ⟨w5.heap.size, 1, none⟩) (by simp only []; omega)).trans c51
  clear c51
  have Bw16 : Below w.heap.size w w16 := Bw15.trans (hb16.mono Bw15.size)
  have zw16 := hb16.size
  obtain ⟨S7, k7, rfl, hp7⟩ := ho16_0.opn
  clear ho16_0
  have hi7 := Lib.hid (own_in hp7)
  go_wp2_with fail
  refine (calls_grow (eqInt64S_t w16 S7 S2 (listV a0 x1 a2 a3).length k7 k2 _ _ (listV a0 x1 a2 a3) rfl (Nat.le_trans (by omega) (by decide)) (sl_of_own hp7) (sl_of_own hp2))).mono ?_
  rintro e w17 ⟨rfl, hb17⟩
  have hp1 := own_below hp1 hb17 (Nat.le_refl _)
  have hp2 := own_below hp2 hb17 (Nat.le_refl _)
  have hp3 := own_below hp3 hb17 (Nat.le_refl _)
  have hp4 := own_below hp4 hb17 (Nat.le_refl _)
  have hp5 := own_below hp5 hb17 (Nat.le_refl _)
  have hp6 := own_below hp6 hb17 (Nat.le_refl _)
  have hp7 := own_below hp7 hb17 (Nat.le_refl _)
  have c56 := (hb17.cell (p := ⟨w.heap.size, 0, none⟩) (by simp only []; omega)).trans c52
  clear c52
  have c57 := (hb17.cell (p := ⟨w.heap.size, 1, none⟩) (by simp only []; omega)).trans c53
  clear c53
  have c58 := (hb17.cell (p := ⟨w5.heap.size, 0, none⟩) (by simp only []; omega)).trans c54
  clear c54
  have c59 := (hb17.cell (p := ⟨w5.heap.size, 1, none⟩) (by simp only []; omega)).trans c55
  clear c55
  have Bw17 : Below w.heap.size w w17 := Bw16.trans (hb17.mono Bw16.size)
  have zw17 := hb17.size
  go_wp2_with fail
  refine (calls_grow (heldInt64S_c _ _ S4 (listV a0 x1 a2 a3).length k4 (Nat.le_trans (by omega) (by decide)) (1) (by decide) (by decide) (sl_of_own hp4))).mono ?_
  rintro e w18 ⟨rfl, hb18⟩
  have hp1 := own_below hp1 hb18 (Nat.le_refl _)
  have hp2 := own_below hp2 hb18 (Nat.le_refl _)
  have hp3 := own_below hp3 hb18 (Nat.le_refl _)
  have hp4 := own_below hp4 hb18 (Nat.le_refl _)
  have hp5 := own_below hp5 hb18 (Nat.le_refl _)
  have hp6 := own_below hp6 hb18 (Nat.le_refl _)
  have hp7 := own_below hp7 hb18 (Nat.le_refl _)
  have c60 := (hb18.cell (p := ⟨w.heap.size, 0, none⟩) (by simp only []; omega)).trans c56
  clear c56
  have c61 := (hb18.cell (p := ⟨w.heap.size, 1, none⟩) (by simp only []; omega)).trans c57
  clear c57
  have c62 := (hb18.cell (p := ⟨w5.heap.size, 0, none⟩) (by simp only []; omega)).trans c58
  clear c58
  have c63 := (hb18.cell (p := ⟨w5.heap.size, 1, none⟩) (by simp only []; omega)).trans c59
  clear c59
  have Bw18 : Below w.heap.size w w18 := Bw17.trans (hb18.mono Bw17.size)
  have zw18 := hb18.size
  have hk18 : (0 : Int) ≤ 1 + ((listV a0 x1 a2 a3).length : Nat) := by omega
  go_wp2
  go_ret
  exact ⟨rfl, Bw18⟩

end Go.Proofs.Ytlipejcmjhmnaaa
