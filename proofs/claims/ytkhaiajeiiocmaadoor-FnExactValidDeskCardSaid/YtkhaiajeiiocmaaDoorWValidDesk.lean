/-
  FnExactValidDesk returns true for every input, and leaves its arguments as they were.
  Conditions: none beyond the given statement's own.
-/
import Derived.Test.YtkhaiajeiiocmaaDoorH
import Derived.Deep.RegionHeld3
import Derived.Test.YtkhaiajeiiocmaaDoorVD
import Derived.Test.YtkhaiajeiiocmaaDoorSD
namespace Go.Proofs.YtkhaiajeiiocmaaDoor
open Go.RowKit

set_option maxRecDepth 100000 in
set_option maxHeartbeats 4000000 in
theorem law_ValidDesk (w : World) (A0 : Option Addr) (n0 cap0 : Nat) (x0 : List Nat) (A1 : Option Addr) (n1 cap1 : Nat) (x1 : List Int) (a2 : Int) (A3 : Option Addr) (n3 cap3 : Nat) (x3 : List Int) (a4 : ByteArray) (hl0 : x0.length = n0) (hm0 : n0 ≤ maxLen) (hx0 : Sl w w.heap.size A0 (x0.map (Value.float .f32))) (hl1 : x1.length = n1) (hm1 : n1 ≤ maxLen) (hx1 : Sl w w.heap.size A1 (x1.map (Value.int .i64))) (hl3 : x3.length = n3) (hm3 : n3 ≤ maxLen) (hx3 : Sl w w.heap.size A3 (x3.map (Value.int .i64))) (hw4 : a4.size ≤ maxLen) :
    Calls Tryd.prog 3 #[.agg #[.slice A0 n0 cap0, .slice A1 n1 cap1, .int .i64 a2, .slice A3 n3 cap3, .string a4]] w fun e w' => e = .returned (.bool true) ∧ Below w.heap.size w w' := by
  unfold maxLen at hm0
  unfold maxLen at hm1
  unfold maxLen at hm3
  unfold maxLen at hw4
  have hq : ∀ b : Bool, (b == b) = true := fun b => by simp
  go_enter Tryd.func3, Tryd.ntmps3
  go_wp2_with fail
  obtain ⟨w1, ew1⟩ : ∃ q : World, q = (w.alloc (.cells #[.slice A0 n0 cap0, .slice A1 n1 cap1, .int .i64 a2, .slice A3 n3 cap3, .string a4] 29)) := ⟨_, rfl⟩
  rw [← ew1]
  have Bw1 : Below w.heap.size w w1 := by rw [ew1]; exact ((Below.refl _ _).alloc (Nat.le_refl _) _)
  have zw1 : w1.heap.size = w.heap.size + 1 := by rw [ew1]; simp
  have c1 : w1.cell? ⟨w.heap.size, 0, none⟩ = some (.slice A0 n0 cap0) := by rw [ew1]; (first | (simp; done) | (simp (disch := (first | (simp; done) | (simp; omega))) [World.cell?_alloc_at]; done) | (simp (disch := (first | (simp; done) | (simp; omega))) [World.cell?_alloc_past]; done) | (simp (disch := (first | (simp; done) | (simp; omega))) [World.cell?_alloc_at, World.cell?_alloc_past]; done) | (simp (disch := (first | (simp; done) | (simp; omega))) [World.frozen?_alloc_at]; done) | (simp (disch := (first | (simp; done) | (simp; omega))) [World.frozen?_alloc_past]; done) | (simp (disch := (first | (simp; done) | (simp; omega))) [World.frozen?_alloc_at, World.frozen?_alloc_past]; done))
  have c2 : w1.cell? ⟨w.heap.size, 1, none⟩ = some (.slice A1 n1 cap1) := by rw [ew1]; (first | (simp; done) | (simp (disch := (first | (simp; done) | (simp; omega))) [World.cell?_alloc_at]; done) | (simp (disch := (first | (simp; done) | (simp; omega))) [World.cell?_alloc_past]; done) | (simp (disch := (first | (simp; done) | (simp; omega))) [World.cell?_alloc_at, World.cell?_alloc_past]; done) | (simp (disch := (first | (simp; done) | (simp; omega))) [World.frozen?_alloc_at]; done) | (simp (disch := (first | (simp; done) | (simp; omega))) [World.frozen?_alloc_past]; done) | (simp (disch := (first | (simp; done) | (simp; omega))) [World.frozen?_alloc_at, World.frozen?_alloc_past]; done))
  have c3 : w1.cell? ⟨w.heap.size, 2, none⟩ = some (.int .i64 a2) := by rw [ew1]; (first | (simp; done) | (simp (disch := (first | (simp; done) | (simp; omega))) [World.cell?_alloc_at]; done) | (simp (disch := (first | (simp; done) | (simp; omega))) [World.cell?_alloc_past]; done) | (simp (disch := (first | (simp; done) | (simp; omega))) [World.cell?_alloc_at, World.cell?_alloc_past]; done) | (simp (disch := (first | (simp; done) | (simp; omega))) [World.frozen?_alloc_at]; done) | (simp (disch := (first | (simp; done) | (simp; omega))) [World.frozen?_alloc_past]; done) | (simp (disch := (first | (simp; done) | (simp; omega))) [World.frozen?_alloc_at, World.frozen?_alloc_past]; done))
  have c4 : w1.cell? ⟨w.heap.size, 3, none⟩ = some (.slice A3 n3 cap3) := by rw [ew1]; (first | (simp; done) | (simp (disch := (first | (simp; done) | (simp; omega))) [World.cell?_alloc_at]; done) | (simp (disch := (first | (simp; done) | (simp; omega))) [World.cell?_alloc_past]; done) | (simp (disch := (first | (simp; done) | (simp; omega))) [World.cell?_alloc_at, World.cell?_alloc_past]; done) | (simp (disch := (first | (simp; done) | (simp; omega))) [World.frozen?_alloc_at]; done) | (simp (disch := (first | (simp; done) | (simp; omega))) [World.frozen?_alloc_past]; done) | (simp (disch := (first | (simp; done) | (simp; omega))) [World.frozen?_alloc_at, World.frozen?_alloc_past]; done))
  have c5 : w1.cell? ⟨w.heap.size, 4, none⟩ = some (.string a4) := by rw [ew1]; (first | (simp; done) | (simp (disch := (first | (simp; done) | (simp; omega))) [World.cell?_alloc_at]; done) | (simp (disch := (first | (simp; done) | (simp; omega))) [World.cell?_alloc_past]; done) | (simp (disch := (first | (simp; done) | (simp; omega))) [World.cell?_alloc_at, World.cell?_alloc_past]; done) | (simp (disch := (first | (simp; done) | (simp; omega))) [World.frozen?_alloc_at]; done) | (simp (disch := (first | (simp; done) | (simp; omega))) [World.frozen?_alloc_past]; done) | (simp (disch := (first | (simp; done) | (simp; omega))) [World.frozen?_alloc_at, World.frozen?_alloc_past]; done))
  clear ew1
  go_wp2_with fail
  refine (szDesk_c w1 A0 n0 cap0 A1 n1 cap1 a2 A3 n3 cap3 a4 1048576 (by omega) (by omega) (by omega) (by omega) (by omega) (by omega)).mono ?_
  rintro e w2 ⟨q2, rfl, sq2, hb2⟩
  have c6 := (hb2.cell (p := ⟨w.heap.size, 0, none⟩) (by simp only []; omega)).trans c1
  clear c1
  have c7 := (hb2.cell (p := ⟨w.heap.size, 1, none⟩) (by simp only []; omega)).trans c2
  clear c2
  have c8 := (hb2.cell (p := ⟨w.heap.size, 2, none⟩) (by simp only []; omega)).trans c3
  clear c3
  have c9 := (hb2.cell (p := ⟨w.heap.size, 3, none⟩) (by simp only []; omega)).trans c4
  clear c4
  have c10 := (hb2.cell (p := ⟨w.heap.size, 4, none⟩) (by simp only []; omega)).trans c5
  clear c5
  have Bw2 : Below w.heap.size w w2 := Bw1.trans (hb2.mono Bw1.size)
  have zw2 := hb2.size
  rcases sq2 with rfl | ⟨sq2, sq21, hn0, hn1, hn3, hsa4⟩
  · go_wp2
    go_ret
    exact ⟨rfl, Bw2⟩
  go_wp2_with fail
  refine (toDesk_c w2 A0 n0 cap0 x0 hl0 hn0 (((hx0).below Bw2).more Bw2.size) A1 n1 cap1 x1 hl1 hn1 (((hx1).below Bw2).more Bw2.size) a2 A3 n3 cap3 x3 hl3 hn3 (((hx3).below Bw2).more Bw2.size) a4).mono ?_
  rintro e w3 ⟨v0, v1, v3, rfl, ho3_0, ho3_1, ho3_3, hb3⟩
  have c11 := (hb3.cell (p := ⟨w.heap.size, 0, none⟩) (by simp only []; omega)).trans c6
  clear c6
  have c12 := (hb3.cell (p := ⟨w.heap.size, 1, none⟩) (by simp only []; omega)).trans c7
  clear c7
  have c13 := (hb3.cell (p := ⟨w.heap.size, 2, none⟩) (by simp only []; omega)).trans c8
  clear c8
  have c14 := (hb3.cell (p := ⟨w.heap.size, 3, none⟩) (by simp only []; omega)).trans c9
  clear c9
  have c15 := (hb3.cell (p := ⟨w.heap.size, 4, none⟩) (by simp only []; omega)).trans c10
  clear c10
  have Bw3 : Below w.heap.size w w3 := Bw2.trans (hb3.mono Bw2.size)
  have zw3 := hb3.size
  obtain ⟨S1, k1, rfl, hp1⟩ := ho3_0.opn
  rw [hl0] at hp1 ⊢
  clear ho3_0
  have hi1 := Lib.hid (own_in hp1)
  obtain ⟨S2, k2, rfl, hp2⟩ := ho3_1.opn
  rw [hl1] at hp2 ⊢
  clear ho3_1
  have hi2 := Lib.hid (own_in hp2)
  obtain ⟨S3, k3, rfl, hp3⟩ := ho3_3.opn
  rw [hl3] at hp3 ⊢
  clear ho3_3
  have hi3 := Lib.hid (own_in hp3)
  go_wp2_with fail
  refine (spec_ValidDesk_c w3 S1 n0 k1 x0 hl0 hn0 (sl_of_own hp1) S2 n1 k2 x1 hl1 hn1 (sl_of_own hp2) a2 S3 n3 k3 x3 hl3 hn3 (sl_of_own hp3) a4 hsa4).mono ?_
  rintro e w4 ⟨rfl, hb4⟩
  have hp1 := own_below hp1 hb4 (Nat.le_refl _)
  have hp2 := own_below hp2 hb4 (Nat.le_refl _)
  have hp3 := own_below hp3 hb4 (Nat.le_refl _)
  have c16 := (hb4.cell (p := ⟨w.heap.size, 0, none⟩) (by simp only []; omega)).trans c11
  clear c11
  have c17 := (hb4.cell (p := ⟨w.heap.size, 1, none⟩) (by simp only []; omega)).trans c12
  clear c12
  have c18 := (hb4.cell (p := ⟨w.heap.size, 2, none⟩) (by simp only []; omega)).trans c13
  clear c13
  have c19 := (hb4.cell (p := ⟨w.heap.size, 3, none⟩) (by simp only []; omega)).trans c14
  clear c14
  have c20 := (hb4.cell (p := ⟨w.heap.size, 4, none⟩) (by simp only []; omega)).trans c15
  clear c15
  have Bw4 : Below w.heap.size w w4 := Bw3.trans (hb4.mono Bw3.size)
  have zw4 := hb4.size
  go_wp2_with fail
  refine (toDesk_c w4 A0 n0 cap0 x0 hl0 hn0 (((hx0).below Bw4).more Bw4.size) A1 n1 cap1 x1 hl1 hn1 (((hx1).below Bw4).more Bw4.size) a2 A3 n3 cap3 x3 hl3 hn3 (((hx3).below Bw4).more Bw4.size) a4).mono ?_
  rintro e w5 ⟨v0, v1, v3, rfl, ho5_0, ho5_1, ho5_3, hb5⟩
  have hp1 := own_below hp1 hb5 (Nat.le_refl _)
  have hp2 := own_below hp2 hb5 (Nat.le_refl _)
  have hp3 := own_below hp3 hb5 (Nat.le_refl _)
  have c21 := (hb5.cell (p := ⟨w.heap.size, 0, none⟩) (by simp only []; omega)).trans c16
  clear c16
  have c22 := (hb5.cell (p := ⟨w.heap.size, 1, none⟩) (by simp only []; omega)).trans c17
  clear c17
  have c23 := (hb5.cell (p := ⟨w.heap.size, 2, none⟩) (by simp only []; omega)).trans c18
  clear c18
  have c24 := (hb5.cell (p := ⟨w.heap.size, 3, none⟩) (by simp only []; omega)).trans c19
  clear c19
  have c25 := (hb5.cell (p := ⟨w.heap.size, 4, none⟩) (by simp only []; omega)).trans c20
  clear c20
  have Bw5 : Below w.heap.size w w5 := Bw4.trans (hb5.mono Bw4.size)
  have zw5 := hb5.size
  obtain ⟨S4, k4, rfl, hp4⟩ := ho5_0.opn
  rw [hl0] at hp4 ⊢
  clear ho5_0
  have hi4 := Lib.hid (own_in hp4)
  obtain ⟨S5, k5, rfl, hp5⟩ := ho5_1.opn
  rw [hl1] at hp5 ⊢
  clear ho5_1
  have hi5 := Lib.hid (own_in hp5)
  obtain ⟨S6, k6, rfl, hp6⟩ := ho5_3.opn
  rw [hl3] at hp6 ⊢
  clear ho5_3
  have hi6 := Lib.hid (own_in hp6)
  have l5_25 : w.heap.size < w5.heap.size := by omega
  go_wp2_with fail
  obtain ⟨w6, ew6⟩ : ∃ q : World, q = w5.alloc (.cells #[.slice S4 n0 k4, .slice S5 n1 k5, .int .i64 a2, .slice S6 n3 k6, .string a4] 35) := ⟨_, rfl⟩
  rw [← ew6]
  have hb6 : Below w5.heap.size w5 w6 := by rw [ew6]; exact (Below.refl _ _).alloc (Nat.le_refl _) _
  have c27 : w6.cell? ⟨w5.heap.size, 0, none⟩ = some (.slice S4 n0 k4) := by rw [ew6]; (first | (simp; done) | (simp (disch := (first | (simp; done) | (simp; omega))) [World.cell?_alloc_at]; done) | (simp (disch := (first | (simp; done) | (simp; omega))) [World.cell?_alloc_past]; done) | (simp (disch := (first | (simp; done) | (simp; omega))) [World.cell?_alloc_at, World.cell?_alloc_past]; done) | (simp (disch := (first | (simp; done) | (simp; omega))) [World.frozen?_alloc_at]; done) | (simp (disch := (first | (simp; done) | (simp; omega))) [World.frozen?_alloc_past]; done) | (simp (disch := (first | (simp; done) | (simp; omega))) [World.frozen?_alloc_at, World.frozen?_alloc_past]; done))
  have c28 : w6.cell? ⟨w5.heap.size, 1, none⟩ = some (.slice S5 n1 k5) := by rw [ew6]; (first | (simp; done) | (simp (disch := (first | (simp; done) | (simp; omega))) [World.cell?_alloc_at]; done) | (simp (disch := (first | (simp; done) | (simp; omega))) [World.cell?_alloc_past]; done) | (simp (disch := (first | (simp; done) | (simp; omega))) [World.cell?_alloc_at, World.cell?_alloc_past]; done) | (simp (disch := (first | (simp; done) | (simp; omega))) [World.frozen?_alloc_at]; done) | (simp (disch := (first | (simp; done) | (simp; omega))) [World.frozen?_alloc_past]; done) | (simp (disch := (first | (simp; done) | (simp; omega))) [World.frozen?_alloc_at, World.frozen?_alloc_past]; done))
  have c29 : w6.cell? ⟨w5.heap.size, 2, none⟩ = some (.int .i64 a2) := by rw [ew6]; (first | (simp; done) | (simp (disch := (first | (simp; done) | (simp; omega))) [World.cell?_alloc_at]; done) | (simp (disch := (first | (simp; done) | (simp; omega))) [World.cell?_alloc_past]; done) | (simp (disch := (first | (simp; done) | (simp; omega))) [World.cell?_alloc_at, World.cell?_alloc_past]; done) | (simp (disch := (first | (simp; done) | (simp; omega))) [World.frozen?_alloc_at]; done) | (simp (disch := (first | (simp; done) | (simp; omega))) [World.frozen?_alloc_past]; done) | (simp (disch := (first | (simp; done) | (simp; omega))) [World.frozen?_alloc_at, World.frozen?_alloc_past]; done))
  have c30 : w6.cell? ⟨w5.heap.size, 3, none⟩ = some (.slice S6 n3 k6) := by rw [ew6]; (first | (simp; done) | (simp (disch := (first | (simp; done) | (simp; omega))) [World.cell?_alloc_at]; done) | (simp (disch := (first | (simp; done) | (simp; omega))) [World.cell?_alloc_past]; done) | (simp (disch := (first | (simp; done) | (simp; omega))) [World.cell?_alloc_at, World.cell?_alloc_past]; done) | (simp (disch := (first | (simp; done) | (simp; omega))) [World.frozen?_alloc_at]; done) | (simp (disch := (first | (simp; done) | (simp; omega))) [World.frozen?_alloc_past]; done) | (simp (disch := (first | (simp; done) | (simp; omega))) [World.frozen?_alloc_at, World.frozen?_alloc_past]; done))
  have c31 : w6.cell? ⟨w5.heap.size, 4, none⟩ = some (.string a4) := by rw [ew6]; (first | (simp; done) | (simp (disch := (first | (simp; done) | (simp; omega))) [World.cell?_alloc_at]; done) | (simp (disch := (first | (simp; done) | (simp; omega))) [World.cell?_alloc_past]; done) | (simp (disch := (first | (simp; done) | (simp; omega))) [World.cell?_alloc_at, World.cell?_alloc_past]; done) | (simp (disch := (first | (simp; done) | (simp; omega))) [World.frozen?_alloc_at]; done) | (simp (disch := (first | (simp; done) | (simp; omega))) [World.frozen?_alloc_past]; done) | (simp (disch := (first | (simp; done) | (simp; omega))) [World.frozen?_alloc_at, World.frozen?_alloc_past]; done))
  have yw6 : w6.heap.size = w5.heap.size + 1 := by rw [ew6]; simp
  clear ew6
  have hp1 := own_below hp1 hb6 (Nat.le_refl _)
  have hp2 := own_below hp2 hb6 (Nat.le_refl _)
  have hp3 := own_below hp3 hb6 (Nat.le_refl _)
  have hp4 := own_below hp4 hb6 (Nat.le_refl _)
  have hp5 := own_below hp5 hb6 (Nat.le_refl _)
  have hp6 := own_below hp6 hb6 (Nat.le_refl _)
  have c32 := (hb6.cell (p := ⟨w.heap.size, 0, none⟩) (by simp only []; omega)).trans c21
  clear c21
  have c33 := (hb6.cell (p := ⟨w.heap.size, 1, none⟩) (by simp only []; omega)).trans c22
  clear c22
  have c34 := (hb6.cell (p := ⟨w.heap.size, 2, none⟩) (by simp only []; omega)).trans c23
  clear c23
  have c35 := (hb6.cell (p := ⟨w.heap.size, 3, none⟩) (by simp only []; omega)).trans c24
  clear c24
  have c36 := (hb6.cell (p := ⟨w.heap.size, 4, none⟩) (by simp only []; omega)).trans c25
  clear c25
  have Bw6 : Below w.heap.size w w6 := Bw5.trans (hb6.mono Bw5.size)
  have zw6 := hb6.size
  go_wp2_with fail
  refine (impl_ValidDesk_c w6 S4 n0 k4 x0 hl0 hn0 (sl_of_own hp4) S5 n1 k5 x1 hl1 hn1 (sl_of_own hp5) a2 S6 n3 k6 x3 hl3 hn3 (sl_of_own hp6) a4 hsa4).mono ?_
  rintro e w7 ⟨rfl, hb7⟩
  have hp1 := own_below hp1 hb7 (Nat.le_refl _)
  have hp2 := own_below hp2 hb7 (Nat.le_refl _)
  have hp3 := own_below hp3 hb7 (Nat.le_refl _)
  have hp4 := own_below hp4 hb7 (Nat.le_refl _)
  have hp5 := own_below hp5 hb7 (Nat.le_refl _)
  have hp6 := own_below hp6 hb7 (Nat.le_refl _)
  have c37 := (hb7.cell (p := ⟨w.heap.size, 0, none⟩) (by simp only []; omega)).trans c32
  clear c32
  have c38 := (hb7.cell (p := ⟨w.heap.size, 1, none⟩) (by simp only []; omega)).trans c33
  clear c33
  have c39 := (hb7.cell (p := ⟨w.heap.size, 2, none⟩) (by simp only []; omega)).trans c34
  clear c34
  have c40 := (hb7.cell (p := ⟨w.heap.size, 3, none⟩) (by simp only []; omega)).trans c35
  clear c35
  have c41 := (hb7.cell (p := ⟨w.heap.size, 4, none⟩) (by simp only []; omega)).trans c36
  clear c36
  have c42 := (hb7.cell (p := ⟨w5.heap.size, 0, none⟩) (by simp only []; omega)).trans c27
  clear c27
  have c43 := (hb7.cell (p := ⟨w5.heap.size, 1, none⟩) (by simp only []; omega)).trans c28
  clear c28
  have c44 := (hb7.cell (p := ⟨w5.heap.size, 2, none⟩) (by simp only []; omega)).trans c29
  clear c29
  have c45 := (hb7.cell (p := ⟨w5.heap.size, 3, none⟩) (by simp only []; omega)).trans c30
  clear c30
  have c46 := (hb7.cell (p := ⟨w5.heap.size, 4, none⟩) (by simp only []; omega)).trans c31
  clear c31
  have Bw7 : Below w.heap.size w w7 := Bw6.trans (hb7.mono Bw6.size)
  have zw7 := hb7.size
  go_wp2_with fail
  go_region_held3 (fun w' => w'.cell? ⟨w5.heap.size, 0, none⟩ = some (.slice S4 n0 k4) ∧ w'.cell? ⟨w5.heap.size, 1, none⟩ = some (.slice S5 n1 k5) ∧ w'.cell? ⟨w5.heap.size, 2, none⟩ = some (.int .i64 a2) ∧ w'.cell? ⟨w5.heap.size, 3, none⟩ = some (.slice S6 n3 k6) ∧ w'.cell? ⟨w5.heap.size, 4, none⟩ = some (.string a4) ∧ w'.cell? ⟨w.heap.size, 0, none⟩ = some (.slice A0 n0 cap0) ∧ w'.cell? ⟨w.heap.size, 1, none⟩ = some (.slice A1 n1 cap1) ∧ w'.cell? ⟨w.heap.size, 2, none⟩ = some (.int .i64 a2) ∧ w'.cell? ⟨w.heap.size, 3, none⟩ = some (.slice A3 n3 cap3) ∧ w'.cell? ⟨w.heap.size, 4, none⟩ = some (.string a4))
    (first | exact ⟨c62, c63, c64, c65, c66, c57, c58, c59, c60, c61⟩ | exact ⟨c52, c53, c54, c55, c56, c47, c48, c49, c50, c51⟩ | exact ⟨c42, c43, c44, c45, c46, c37, c38, c39, c40, c41⟩)
    (first
      | (go_at_call 8; refine (eqDesk_t w8 S4 S7 n0 k4 k7 x0 hl0 (Nat.le_trans hn0 (by decide)) (sl_of_own hp4) (sl_of_own hp7) S5 S8 n1 k5 k8 x1 hl1 (Nat.le_trans hn1 (by decide)) (sl_of_own hp5) (sl_of_own hp8) a2 S6 S9 n3 k6 k9 x3 hl3 (Nat.le_trans hn3 (by decide)) (sl_of_own hp6) (sl_of_own hp9) a4).mono ?_; rintro e w9 ⟨rfl, hb9⟩; have hp1 := own_below hp1 hb9 (Nat.le_refl _); have hp2 := own_below hp2 hb9 (Nat.le_refl _); have hp3 := own_below hp3 hb9 (Nat.le_refl _); have hp4 := own_below hp4 hb9 (Nat.le_refl _); have hp5 := own_below hp5 hb9 (Nat.le_refl _); have hp6 := own_below hp6 hb9 (Nat.le_refl _); have hp7 := own_below hp7 hb9 (Nat.le_refl _); have hp8 := own_below hp8 hb9 (Nat.le_refl _); have hp9 := own_below hp9 hb9 (Nat.le_refl _); have c57 := (hb9.cell (p := ⟨w.heap.size, 0, none⟩) (by simp only []; omega)).trans c47; have c58 := (hb9.cell (p := ⟨w.heap.size, 1, none⟩) (by simp only []; omega)).trans c48; have c59 := (hb9.cell (p := ⟨w.heap.size, 2, none⟩) (by simp only []; omega)).trans c49; have c60 := (hb9.cell (p := ⟨w.heap.size, 3, none⟩) (by simp only []; omega)).trans c50; have c61 := (hb9.cell (p := ⟨w.heap.size, 4, none⟩) (by simp only []; omega)).trans c51; have c62 := (hb9.cell (p := ⟨w5.heap.size, 0, none⟩) (by simp only []; omega)).trans c52; have c63 := (hb9.cell (p := ⟨w5.heap.size, 1, none⟩) (by simp only []; omega)).trans c53; have c64 := (hb9.cell (p := ⟨w5.heap.size, 2, none⟩) (by simp only []; omega)).trans c54; have c65 := (hb9.cell (p := ⟨w5.heap.size, 3, none⟩) (by simp only []; omega)).trans c55; have c66 := (hb9.cell (p := ⟨w5.heap.size, 4, none⟩) (by simp only []; omega)).trans c56; have Bw9 : Below w.heap.size w w9 := Bw8.trans (hb9.mono Bw8.size); have zw9 := hb9.size)
      | (go_at_call 6; refine (toDesk_c w7.drew A0 n0 cap0 x0 hl0 hn0 (((hx0).below Bw7).more Bw7.size) A1 n1 cap1 x1 hl1 hn1 (((hx1).below Bw7).more Bw7.size) a2 A3 n3 cap3 x3 hl3 hn3 (((hx3).below Bw7).more Bw7.size) a4).mono ?_; rintro e w8 ⟨v0, v1, v3, rfl, ho8_0, ho8_1, ho8_3, hb8⟩; have hb8 := below_undrew hb8; have zd8 : w7.drew.heap.size = w7.heap.size := rfl; have hp1 := own_below hp1 hb8 (Nat.le_refl _); have hp2 := own_below hp2 hb8 (Nat.le_refl _); have hp3 := own_below hp3 hb8 (Nat.le_refl _); have hp4 := own_below hp4 hb8 (Nat.le_refl _); have hp5 := own_below hp5 hb8 (Nat.le_refl _); have hp6 := own_below hp6 hb8 (Nat.le_refl _); have c47 := (hb8.cell (p := ⟨w.heap.size, 0, none⟩) (by simp only []; omega)).trans c37; have c48 := (hb8.cell (p := ⟨w.heap.size, 1, none⟩) (by simp only []; omega)).trans c38; have c49 := (hb8.cell (p := ⟨w.heap.size, 2, none⟩) (by simp only []; omega)).trans c39; have c50 := (hb8.cell (p := ⟨w.heap.size, 3, none⟩) (by simp only []; omega)).trans c40; have c51 := (hb8.cell (p := ⟨w.heap.size, 4, none⟩) (by simp only []; omega)).trans c41; have c52 := (hb8.cell (p := ⟨w5.heap.size, 0, none⟩) (by simp only []; omega)).trans c42; have c53 := (hb8.cell (p := ⟨w5.heap.size, 1, none⟩) (by simp only []; omega)).trans c43; have c54 := (hb8.cell (p := ⟨w5.heap.size, 2, none⟩) (by simp only []; omega)).trans c44; have c55 := (hb8.cell (p := ⟨w5.heap.size, 3, none⟩) (by simp only []; omega)).trans c45; have c56 := (hb8.cell (p := ⟨w5.heap.size, 4, none⟩) (by simp only []; omega)).trans c46; have Bw8 : Below w.heap.size w w8 := Bw7.trans (hb8.mono Bw7.size); have zw8 := hb8.size; obtain ⟨S7, k7, rfl, hp7⟩ := ho8_0.opn; rw [hl0] at hp7 ⊢; clear ho8_0; have hi7 := Lib.hid (own_in hp7); obtain ⟨S8, k8, rfl, hp8⟩ := ho8_1.opn; rw [hl1] at hp8 ⊢; clear ho8_1; have hi8 := Lib.hid (own_in hp8); obtain ⟨S9, k9, rfl, hp9⟩ := ho8_3.opn; rw [hl3] at hp9 ⊢; clear ho8_3; have hi9 := Lib.hid (own_in hp9)))
  go_wp2
  go_ret
  exact ⟨rfl, Bw9⟩

end Go.Proofs.YtkhaiajeiiocmaaDoor
