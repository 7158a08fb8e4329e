/-
  FnExactSameDesk returns true for every input, and leaves its arguments as they were.
  Conditions: none beyond the given statement's own.
-/
import Derived.Test.YtpdblaldndmdoaaH
import Derived.Deep.RegionHeld3
import Derived.Test.YtpdblaldndmdoaaDS
namespace Go.Proofs.Ytpdblaldndmdoaa
open Go.RowKit

set_option maxRecDepth 100000 in
set_option maxHeartbeats 4000000 in
theorem law_SameDesk (w : World) (A0 : Option Addr) (n0 cap0 : Nat) (x0 : List Nat) (A1 : Option Addr) (n1 cap1 : Nat) (x1 : List Int) (a2 : Int) (A3 : Option Addr) (n3 cap3 : Nat) (x3 : List Int) (a4 : ByteArray) (A5 : Option Addr) (n5 cap5 : Nat) (x5 : List Nat) (A6 : Option Addr) (n6 cap6 : Nat) (x6 : List Int) (a7 : Int) (A8 : Option Addr) (n8 cap8 : Nat) (x8 : List Int) (a9 : ByteArray) (hl0 : x0.length = n0) (hm0 : n0 ≤ maxLen) (hx0 : Sl w w.heap.size A0 (x0.map (Value.float .f32))) (hf0 : ∀ x ∈ x0, x < 4294967296) (hl1 : x1.length = n1) (hm1 : n1 ≤ maxLen) (hx1 : Sl w w.heap.size A1 (x1.map (Value.int .i64))) (hl3 : x3.length = n3) (hm3 : n3 ≤ maxLen) (hx3 : Sl w w.heap.size A3 (x3.map (Value.int .i64))) (hw4 : a4.size ≤ maxLen) (hl5 : x5.length = n5) (hm5 : n5 ≤ maxLen) (hx5 : Sl w w.heap.size A5 (x5.map (Value.float .f32))) (hf5 : ∀ x ∈ x5, x < 4294967296) (hl6 : x6.length = n6) (hm6 : n6 ≤ maxLen) (hx6 : Sl w w.heap.size A6 (x6.map (Value.int .i64))) (hl8 : x8.length = n8) (hm8 : n8 ≤ maxLen) (hx8 : Sl w w.heap.size A8 (x8.map (Value.int .i64))) (hw9 : a9.size ≤ maxLen) :
    Calls Try.prog 10 #[.agg #[.slice A0 n0 cap0, .slice A1 n1 cap1, .int .i64 a2, .slice A3 n3 cap3, .string a4], .agg #[.slice A5 n5 cap5, .slice A6 n6 cap6, .int .i64 a7, .slice A8 n8 cap8, .string a9]] w fun e w' => e = .returned (.bool true) ∧ Below w.heap.size w w' := by
  unfold maxLen at hm0
  unfold maxLen at hm1
  unfold maxLen at hm3
  unfold maxLen at hw4
  unfold maxLen at hm5
  unfold maxLen at hm6
  unfold maxLen at hm8
  unfold maxLen at hw9
  have hq : ∀ b : Bool, (b == b) = true := fun b => by simp
  go_enter Try.func10, Try.ntmps10
  go_wp2_with fail
  obtain ⟨w1, ew1⟩ : ∃ q : World, q = ((w.alloc (.cells #[.slice A0 n0 cap0, .slice A1 n1 cap1, .int .i64 a2, .slice A3 n3 cap3, .string a4] 78)).alloc (.cells #[.slice A5 n5 cap5, .slice A6 n6 cap6, .int .i64 a7, .slice A8 n8 cap8, .string a9] 78)) := ⟨_, rfl⟩
  rw [← ew1]
  have Bw1 : Below w.heap.size w w1 := by rw [ew1]; exact (((Below.refl _ _).alloc (Nat.le_refl _) _).alloc (by simp <;> omega) _)
  have zw1 : w1.heap.size = w.heap.size + 2 := by rw [ew1]; simp
  have c1 : w1.cell? ⟨w.heap.size, 0, none⟩ = some (.slice A0 n0 cap0) := by rw [ew1]; (first | (simp; done) | (simp (disch := (first | (simp; done) | (simp; omega))) [World.cell?_alloc_at]; done) | (simp (disch := (first | (simp; done) | (simp; omega))) [World.cell?_alloc_past]; done) | (simp (disch := (first | (simp; done) | (simp; omega))) [World.cell?_alloc_at, World.cell?_alloc_past]; done) | (simp (disch := (first | (simp; done) | (simp; omega))) [World.frozen?_alloc_at]; done) | (simp (disch := (first | (simp; done) | (simp; omega))) [World.frozen?_alloc_past]; done) | (simp (disch := (first | (simp; done) | (simp; omega))) [World.frozen?_alloc_at, World.frozen?_alloc_past]; done))
  have c2 : w1.cell? ⟨w.heap.size, 1, none⟩ = some (.slice A1 n1 cap1) := by rw [ew1]; (first | (simp; done) | (simp (disch := (first | (simp; done) | (simp; omega))) [World.cell?_alloc_at]; done) | (simp (disch := (first | (simp; done) | (simp; omega))) [World.cell?_alloc_past]; done) | (simp (disch := (first | (simp; done) | (simp; omega))) [World.cell?_alloc_at, World.cell?_alloc_past]; done) | (simp (disch := (first | (simp; done) | (simp; omega))) [World.frozen?_alloc_at]; done) | (simp (disch := (first | (simp; done) | (simp; omega))) [World.frozen?_alloc_past]; done) | (simp (disch := (first | (simp; done) | (simp; omega))) [World.frozen?_alloc_at, World.frozen?_alloc_past]; done))
  have c3 : w1.cell? ⟨w.heap.size, 2, none⟩ = some (.int .i64 a2) := by rw [ew1]; (first | (simp; done) | (simp (disch := (first | (simp; done) | (simp; omega))) [World.cell?_alloc_at]; done) | (simp (disch := (first | (simp; done) | (simp; omega))) [World.cell?_alloc_past]; done) | (simp (disch := (first | (simp; done) | (simp; omega))) [World.cell?_alloc_at, World.cell?_alloc_past]; done) | (simp (disch := (first | (simp; done) | (simp; omega))) [World.frozen?_alloc_at]; done) | (simp (disch := (first | (simp; done) | (simp; omega))) [World.frozen?_alloc_past]; done) | (simp (disch := (first | (simp; done) | (simp; omega))) [World.frozen?_alloc_at, World.frozen?_alloc_past]; done))
  have c4 : w1.cell? ⟨w.heap.size, 3, none⟩ = some (.slice A3 n3 cap3) := by rw [ew1]; (first | (simp; done) | (simp (disch := (first | (simp; done) | (simp; omega))) [World.cell?_alloc_at]; done) | (simp (disch := (first | (simp; done) | (simp; omega))) [World.cell?_alloc_past]; done) | (simp (disch := (first | (simp; done) | (simp; omega))) [World.cell?_alloc_at, World.cell?_alloc_past]; done) | (simp (disch := (first | (simp; done) | (simp; omega))) [World.frozen?_alloc_at]; done) | (simp (disch := (first | (simp; done) | (simp; omega))) [World.frozen?_alloc_past]; done) | (simp (disch := (first | (simp; done) | (simp; omega))) [World.frozen?_alloc_at, World.frozen?_alloc_past]; done))
  have c5 : w1.cell? ⟨w.heap.size, 4, none⟩ = some (.string a4) := by rw [ew1]; (first | (simp; done) | (simp (disch := (first | (simp; done) | (simp; omega))) [World.cell?_alloc_at]; done) | (simp (disch := (first | (simp; done) | (simp; omega))) [World.cell?_alloc_past]; done) | (simp (disch := (first | (simp; done) | (simp; omega))) [World.cell?_alloc_at, World.cell?_alloc_past]; done) | (simp (disch := (first | (simp; done) | (simp; omega))) [World.frozen?_alloc_at]; done) | (simp (disch := (first | (simp; done) | (simp; omega))) [World.frozen?_alloc_past]; done) | (simp (disch := (first | (simp; done) | (simp; omega))) [World.frozen?_alloc_at, World.frozen?_alloc_past]; done))
  have c6 : w1.cell? ⟨w.heap.size + 1, 0, none⟩ = some (.slice A5 n5 cap5) := by rw [ew1]; (first | (simp; done) | (simp (disch := (first | (simp; done) | (simp; omega))) [World.cell?_alloc_at]; done) | (simp (disch := (first | (simp; done) | (simp; omega))) [World.cell?_alloc_past]; done) | (simp (disch := (first | (simp; done) | (simp; omega))) [World.cell?_alloc_at, World.cell?_alloc_past]; done) | (simp (disch := (first | (simp; done) | (simp; omega))) [World.frozen?_alloc_at]; done) | (simp (disch := (first | (simp; done) | (simp; omega))) [World.frozen?_alloc_past]; done) | (simp (disch := (first | (simp; done) | (simp; omega))) [World.frozen?_alloc_at, World.frozen?_alloc_past]; done))
  have c7 : w1.cell? ⟨w.heap.size + 1, 1, none⟩ = some (.slice A6 n6 cap6) := by rw [ew1]; (first | (simp; done) | (simp (disch := (first | (simp; done) | (simp; omega))) [World.cell?_alloc_at]; done) | (simp (disch := (first | (simp; done) | (simp; omega))) [World.cell?_alloc_past]; done) | (simp (disch := (first | (simp; done) | (simp; omega))) [World.cell?_alloc_at, World.cell?_alloc_past]; done) | (simp (disch := (first | (simp; done) | (simp; omega))) [World.frozen?_alloc_at]; done) | (simp (disch := (first | (simp; done) | (simp; omega))) [World.frozen?_alloc_past]; done) | (simp (disch := (first | (simp; done) | (simp; omega))) [World.frozen?_alloc_at, World.frozen?_alloc_past]; done))
  have c8 : w1.cell? ⟨w.heap.size + 1, 2, none⟩ = some (.int .i64 a7) := by rw [ew1]; (first | (simp; done) | (simp (disch := (first | (simp; done) | (simp; omega))) [World.cell?_alloc_at]; done) | (simp (disch := (first | (simp; done) | (simp; omega))) [World.cell?_alloc_past]; done) | (simp (disch := (first | (simp; done) | (simp; omega))) [World.cell?_alloc_at, World.cell?_alloc_past]; done) | (simp (disch := (first | (simp; done) | (simp; omega))) [World.frozen?_alloc_at]; done) | (simp (disch := (first | (simp; done) | (simp; omega))) [World.frozen?_alloc_past]; done) | (simp (disch := (first | (simp; done) | (simp; omega))) [World.frozen?_alloc_at, World.frozen?_alloc_past]; done))
  have c9 : w1.cell? ⟨w.heap.size + 1, 3, none⟩ = some (.slice A8 n8 cap8) := by rw [ew1]; (first | (simp; done) | (simp (disch := (first | (simp; done) | (simp; omega))) [World.cell?_alloc_at]; done) | (simp (disch := (first | (simp; done) | (simp; omega))) [World.cell?_alloc_past]; done) | (simp (disch := (first | (simp; done) | (simp; omega))) [World.cell?_alloc_at, World.cell?_alloc_past]; done) | (simp (disch := (first | (simp; done) | (simp; omega))) [World.frozen?_alloc_at]; done) | (simp (disch := (first | (simp; done) | (simp; omega))) [World.frozen?_alloc_past]; done) | (simp (disch := (first | (simp; done) | (simp; omega))) [World.frozen?_alloc_at, World.frozen?_alloc_past]; done))
  have c10 : w1.cell? ⟨w.heap.size + 1, 4, none⟩ = some (.string a9) := by rw [ew1]; (first | (simp; done) | (simp (disch := (first | (simp; done) | (simp; omega))) [World.cell?_alloc_at]; done) | (simp (disch := (first | (simp; done) | (simp; omega))) [World.cell?_alloc_past]; done) | (simp (disch := (first | (simp; done) | (simp; omega))) [World.cell?_alloc_at, World.cell?_alloc_past]; done) | (simp (disch := (first | (simp; done) | (simp; omega))) [World.frozen?_alloc_at]; done) | (simp (disch := (first | (simp; done) | (simp; omega))) [World.frozen?_alloc_past]; done) | (simp (disch := (first | (simp; done) | (simp; omega))) [World.frozen?_alloc_at, World.frozen?_alloc_past]; done))
  clear ew1
  go_wp2_with fail
  refine (szDesk_c w1 A0 n0 cap0 A1 n1 cap1 a2 A3 n3 cap3 a4 1048576 (by omega) (by omega) (by omega) (by omega) (by omega) (by omega)).mono ?_
  rintro e w2 ⟨q2, rfl, sq2, hb2⟩
  have c11 := (hb2.cell (p := ⟨w.heap.size, 0, none⟩) (by simp only []; omega)).trans c1
  clear c1
  have c12 := (hb2.cell (p := ⟨w.heap.size, 1, none⟩) (by simp only []; omega)).trans c2
  clear c2
  have c13 := (hb2.cell (p := ⟨w.heap.size, 2, none⟩) (by simp only []; omega)).trans c3
  clear c3
  have c14 := (hb2.cell (p := ⟨w.heap.size, 3, none⟩) (by simp only []; omega)).trans c4
  clear c4
  have c15 := (hb2.cell (p := ⟨w.heap.size, 4, none⟩) (by simp only []; omega)).trans c5
  clear c5
  have c16 := (hb2.cell (p := ⟨w.heap.size + 1, 0, none⟩) (by simp only []; omega)).trans c6
  clear c6
  have c17 := (hb2.cell (p := ⟨w.heap.size + 1, 1, none⟩) (by simp only []; omega)).trans c7
  clear c7
  have c18 := (hb2.cell (p := ⟨w.heap.size + 1, 2, none⟩) (by simp only []; omega)).trans c8
  clear c8
  have c19 := (hb2.cell (p := ⟨w.heap.size + 1, 3, none⟩) (by simp only []; omega)).trans c9
  clear c9
  have c20 := (hb2.cell (p := ⟨w.heap.size + 1, 4, none⟩) (by simp only []; omega)).trans c10
  clear c10
  have Bw2 : Below w.heap.size w w2 := Bw1.trans (hb2.mono Bw1.size)
  have zw2 := hb2.size
  rcases sq2 with rfl | ⟨sq2, sq21, hn0, hn1, hn3, hsa4⟩
  · go_wp2
    go_ret
    exact ⟨rfl, Bw2⟩
  go_wp2_with fail
  refine (szDesk_c w2 A5 n5 cap5 A6 n6 cap6 a7 A8 n8 cap8 a9 q2 (by omega) (by omega) (by omega) (by omega) (by omega) (by omega)).mono ?_
  rintro e w3 ⟨q3, rfl, sq3, hb3⟩
  have c21 := (hb3.cell (p := ⟨w.heap.size, 0, none⟩) (by simp only []; omega)).trans c11
  clear c11
  have c22 := (hb3.cell (p := ⟨w.heap.size, 1, none⟩) (by simp only []; omega)).trans c12
  clear c12
  have c23 := (hb3.cell (p := ⟨w.heap.size, 2, none⟩) (by simp only []; omega)).trans c13
  clear c13
  have c24 := (hb3.cell (p := ⟨w.heap.size, 3, none⟩) (by simp only []; omega)).trans c14
  clear c14
  have c25 := (hb3.cell (p := ⟨w.heap.size, 4, none⟩) (by simp only []; omega)).trans c15
  clear c15
  have c26 := (hb3.cell (p := ⟨w.heap.size + 1, 0, none⟩) (by simp only []; omega)).trans c16
  clear c16
  have c27 := (hb3.cell (p := ⟨w.heap.size + 1, 1, none⟩) (by simp only []; omega)).trans c17
  clear c17
  have c28 := (hb3.cell (p := ⟨w.heap.size + 1, 2, none⟩) (by simp only []; omega)).trans c18
  clear c18
  have c29 := (hb3.cell (p := ⟨w.heap.size + 1, 3, none⟩) (by simp only []; omega)).trans c19
  clear c19
  have c30 := (hb3.cell (p := ⟨w.heap.size + 1, 4, none⟩) (by simp only []; omega)).trans c20
  clear c20
  have Bw3 : Below w.heap.size w w3 := Bw2.trans (hb3.mono Bw2.size)
  have zw3 := hb3.size
  rcases sq3 with rfl | ⟨sq3, sq31, hn5, hn6, hn8, hsa9⟩
  · go_wp2
    go_ret
    exact ⟨rfl, Bw3⟩
  go_wp2_with fail
  go_region_held3 (fun w' => w'.cell? ⟨w.heap.size, 0, none⟩ = some (.slice A0 n0 cap0) ∧ w'.cell? ⟨w.heap.size, 1, none⟩ = some (.slice A1 n1 cap1) ∧ w'.cell? ⟨w.heap.size, 2, none⟩ = some (.int .i64 a2) ∧ w'.cell? ⟨w.heap.size, 3, none⟩ = some (.slice A3 n3 cap3) ∧ w'.cell? ⟨w.heap.size, 4, none⟩ = some (.string a4) ∧ w'.cell? ⟨w.heap.size + 1, 0, none⟩ = some (.slice A5 n5 cap5) ∧ w'.cell? ⟨w.heap.size + 1, 1, none⟩ = some (.slice A6 n6 cap6) ∧ w'.cell? ⟨w.heap.size + 1, 2, none⟩ = some (.int .i64 a7) ∧ w'.cell? ⟨w.heap.size + 1, 3, none⟩ = some (.slice A8 n8 cap8) ∧ w'.cell? ⟨w.heap.size + 1, 4, none⟩ = some (.string a9))
    (first | exact ⟨c51, c52, c53, c54, c55, c56, c57, c58, c59, c60⟩ | exact ⟨c41, c42, c43, c44, c45, c46, c47, c48, c49, c50⟩ | exact ⟨c31, c32, c33, c34, c35, c36, c37, c38, c39, c40⟩ | exact ⟨c21, c22, c23, c24, c25, c26, c27, c28, c29, c30⟩)
    (first
      | (go_at_call 48; refine (spec_SameDesk_c w5 S1 n0 k1 x0 hl0 hn0 (sl_of_own hp1) hf0 S2 n1 k2 x1 hl1 hn1 (sl_of_own hp2) a2 S3 n3 k3 x3 hl3 hn3 (sl_of_own hp3) a4 hsa4 S4 n5 k4 x5 hl5 hn5 (sl_of_own hp4) hf5 S5 n6 k5 x6 hl6 hn6 (sl_of_own hp5) a7 S6 n8 k6 x8 hl8 hn8 (sl_of_own hp6) a9 hsa9).mono ?_; rintro e w6 ⟨rfl, hb6⟩; have hp1 := own_below hp1 hb6 (Nat.le_refl _); have hp2 := own_below hp2 hb6 (Nat.le_refl _); have hp3 := own_below hp3 hb6 (Nat.le_refl _); have hp4 := own_below hp4 hb6 (Nat.le_refl _); have hp5 := own_below hp5 hb6 (Nat.le_refl _); have hp6 := own_below hp6 hb6 (Nat.le_refl _); have c51 := (hb6.cell (p := ⟨w.heap.size, 0, none⟩) (by simp only []; omega)).trans c41; have c52 := (hb6.cell (p := ⟨w.heap.size, 1, none⟩) (by simp only []; omega)).trans c42; have c53 := (hb6.cell (p := ⟨w.heap.size, 2, none⟩) (by simp only []; omega)).trans c43; have c54 := (hb6.cell (p := ⟨w.heap.size, 3, none⟩) (by simp only []; omega)).trans c44; have c55 := (hb6.cell (p := ⟨w.heap.size, 4, none⟩) (by simp only []; omega)).trans c45; have c56 := (hb6.cell (p := ⟨w.heap.size + 1, 0, none⟩) (by simp only []; omega)).trans c46; have c57 := (hb6.cell (p := ⟨w.heap.size + 1, 1, none⟩) (by simp only []; omega)).trans c47; have c58 := (hb6.cell (p := ⟨w.heap.size + 1, 2, none⟩) (by simp only []; omega)).trans c48; have c59 := (hb6.cell (p := ⟨w.heap.size + 1, 3, none⟩) (by simp only []; omega)).trans c49; have c60 := (hb6.cell (p := ⟨w.heap.size + 1, 4, none⟩) (by simp only []; omega)).trans c50; have Bw6 : Below w.heap.size w w6 := Bw5.trans (hb6.mono Bw5.size); have zw6 := hb6.size)
      | (go_at_call 49; refine (toDesk_c w4 A5 n5 cap5 x5 hl5 hn5 (((hx5).below Bw4).more Bw4.size) A6 n6 cap6 x6 hl6 hn6 (((hx6).below Bw4).more Bw4.size) a7 A8 n8 cap8 x8 hl8 hn8 (((hx8).below Bw4).more Bw4.size) a9).mono ?_; rintro e w5 ⟨v0, v1, v3, rfl, ho5_0, ho5_1, ho5_3, hb5⟩; have hp1 := own_below hp1 hb5 (Nat.le_refl _); have hp2 := own_below hp2 hb5 (Nat.le_refl _); have hp3 := own_below hp3 hb5 (Nat.le_refl _); have c41 := (hb5.cell (p := ⟨w.heap.size, 0, none⟩) (by simp only []; omega)).trans c31; have c42 := (hb5.cell (p := ⟨w.heap.size, 1, none⟩) (by simp only []; omega)).trans c32; have c43 := (hb5.cell (p := ⟨w.heap.size, 2, none⟩) (by simp only []; omega)).trans c33; have c44 := (hb5.cell (p := ⟨w.heap.size, 3, none⟩) (by simp only []; omega)).trans c34; have c45 := (hb5.cell (p := ⟨w.heap.size, 4, none⟩) (by simp only []; omega)).trans c35; have c46 := (hb5.cell (p := ⟨w.heap.size + 1, 0, none⟩) (by simp only []; omega)).trans c36; have c47 := (hb5.cell (p := ⟨w.heap.size + 1, 1, none⟩) (by simp only []; omega)).trans c37; have c48 := (hb5.cell (p := ⟨w.heap.size + 1, 2, none⟩) (by simp only []; omega)).trans c38; have c49 := (hb5.cell (p := ⟨w.heap.size + 1, 3, none⟩) (by simp only []; omega)).trans c39; have c50 := (hb5.cell (p := ⟨w.heap.size + 1, 4, none⟩) (by simp only []; omega)).trans c40; have Bw5 : Below w.heap.size w w5 := Bw4.trans (hb5.mono Bw4.size); have zw5 := hb5.size; obtain ⟨S4, k4, rfl, hp4⟩ := ho5_0.opn; rw [hl5] at hp4 ⊢; clear ho5_0; have hi4 := Lib.hid (own_in hp4); obtain ⟨S5, k5, rfl, hp5⟩ := ho5_1.opn; rw [hl6] at hp5 ⊢; clear ho5_1; have hi5 := Lib.hid (own_in hp5); obtain ⟨S6, k6, rfl, hp6⟩ := ho5_3.opn; rw [hl8] at hp6 ⊢; clear ho5_3; have hi6 := Lib.hid (own_in hp6))
      | (go_at_call 49; refine (toDesk_c w3.drew A0 n0 cap0 x0 hl0 hn0 (((hx0).below Bw3).more Bw3.size) A1 n1 cap1 x1 hl1 hn1 (((hx1).below Bw3).more Bw3.size) a2 A3 n3 cap3 x3 hl3 hn3 (((hx3).below Bw3).more Bw3.size) a4).mono ?_; rintro e w4 ⟨v0, v1, v3, rfl, ho4_0, ho4_1, ho4_3, hb4⟩; have hb4 := below_undrew hb4; have zd4 : w3.drew.heap.size = w3.heap.size := rfl; have c31 := (hb4.cell (p := ⟨w.heap.size, 0, none⟩) (by simp only []; omega)).trans c21; have c32 := (hb4.cell (p := ⟨w.heap.size, 1, none⟩) (by simp only []; omega)).trans c22; have c33 := (hb4.cell (p := ⟨w.heap.size, 2, none⟩) (by simp only []; omega)).trans c23; have c34 := (hb4.cell (p := ⟨w.heap.size, 3, none⟩) (by simp only []; omega)).trans c24; have c35 := (hb4.cell (p := ⟨w.heap.size, 4, none⟩) (by simp only []; omega)).trans c25; have c36 := (hb4.cell (p := ⟨w.heap.size + 1, 0, none⟩) (by simp only []; omega)).trans c26; have c37 := (hb4.cell (p := ⟨w.heap.size + 1, 1, none⟩) (by simp only []; omega)).trans c27; have c38 := (hb4.cell (p := ⟨w.heap.size + 1, 2, none⟩) (by simp only []; omega)).trans c28; have c39 := (hb4.cell (p := ⟨w.heap.size + 1, 3, none⟩) (by simp only []; omega)).trans c29; have c40 := (hb4.cell (p := ⟨w.heap.size + 1, 4, none⟩) (by simp only []; omega)).trans c30; have Bw4 : Below w.heap.size w w4 := Bw3.trans (hb4.mono Bw3.size); have zw4 := hb4.size; obtain ⟨S1, k1, rfl, hp1⟩ := ho4_0.opn; rw [hl0] at hp1 ⊢; clear ho4_0; have hi1 := Lib.hid (own_in hp1); obtain ⟨S2, k2, rfl, hp2⟩ := ho4_1.opn; rw [hl1] at hp2 ⊢; clear ho4_1; have hi2 := Lib.hid (own_in hp2); obtain ⟨S3, k3, rfl, hp3⟩ := ho4_3.opn; rw [hl3] at hp3 ⊢; clear ho4_3; have hi3 := Lib.hid (own_in hp3)))
  go_wp2_with fail
  refine (toDesk_c w6 A0 n0 cap0 x0 hl0 hn0 (((hx0).below Bw6).more Bw6.size) A1 n1 cap1 x1 hl1 hn1 (((hx1).below Bw6).more Bw6.size) a2 A3 n3 cap3 x3 hl3 hn3 (((hx3).below Bw6).more Bw6.size) a4).mono ?_
  rintro e w7 ⟨v0, v1, v3, rfl, ho7_0, ho7_1, ho7_3, hb7⟩
  have hp1 := own_below hp1 hb7 (Nat.le_refl _)
  have hp2 := own_below hp2 hb7 (Nat.le_refl _)
  have hp3 := own_below hp3 hb7 (Nat.le_refl _)
  have hp4 := own_below hp4 hb7 (Nat.le_refl _)
  have hp5 := own_below hp5 hb7 (Nat.le_refl _)
  have hp6 := own_below hp6 hb7 (Nat.le_refl _)
  have c61 := (hb7.cell (p := ⟨w.heap.size, 0, none⟩) (by simp only []; omega)).trans c51
  clear c51
  have c62 := (hb7.cell (p := ⟨w.heap.size, 1, none⟩) (by simp only []; omega)).trans c52
  clear c52
  have c63 := (hb7.cell (p := ⟨w.heap.size, 2, none⟩) (by simp only []; omega)).trans c53
  clear c53
  have c64 := (hb7.cell (p := ⟨w.heap.size, 3, none⟩) (by simp only []; omega)).trans c54
  clear c54
  have c65 := (hb7.cell (p := ⟨w.heap.size, 4, none⟩) (by simp only []; omega)).trans c55
  clear c55
  have c66 := (hb7.cell (p := ⟨w.heap.size + 1, 0, none⟩) (by simp only []; omega)).trans c56
  clear c56
  have c67 := (hb7.cell (p := ⟨w.heap.size + 1, 1, none⟩) (by simp only []; omega)).trans c57
  clear c57
  have c68 := (hb7.cell (p := ⟨w.heap.size + 1, 2, none⟩) (by simp only []; omega)).trans c58
  clear c58
  have c69 := (hb7.cell (p := ⟨w.heap.size + 1, 3, none⟩) (by simp only []; omega)).trans c59
  clear c59
  have c70 := (hb7.cell (p := ⟨w.heap.size + 1, 4, none⟩) (by simp only []; omega)).trans c60
  clear c60
  have Bw7 : Below w.heap.size w w7 := Bw6.trans (hb7.mono Bw6.size)
  have zw7 := hb7.size
  obtain ⟨S7, k7, rfl, hp7⟩ := ho7_0.opn
  rw [hl0] at hp7 ⊢
  clear ho7_0
  have hi7 := Lib.hid (own_in hp7)
  obtain ⟨S8, k8, rfl, hp8⟩ := ho7_1.opn
  rw [hl1] at hp8 ⊢
  clear ho7_1
  have hi8 := Lib.hid (own_in hp8)
  obtain ⟨S9, k9, rfl, hp9⟩ := ho7_3.opn
  rw [hl3] at hp9 ⊢
  clear ho7_3
  have hi9 := Lib.hid (own_in hp9)
  have l7_70 : w.heap.size < w7.heap.size := by omega
  have l7_71 : w.heap.size + 1 < w7.heap.size := by omega
  go_wp2_with fail
  obtain ⟨w8, ew8⟩ : ∃ q : World, q = w7.alloc (.cells #[.slice S7 n0 k7, .slice S8 n1 k8, .int .i64 a2, .slice S9 n3 k9, .string a4] 84) := ⟨_, rfl⟩
  rw [← ew8]
  have hb8 : Below w7.heap.size w7 w8 := by rw [ew8]; exact (Below.refl _ _).alloc (Nat.le_refl _) _
  have c73 : w8.cell? ⟨w7.heap.size, 0, none⟩ = some (.slice S7 n0 k7) := by rw [ew8]; (first | (simp; done) | (simp (disch := (first | (simp; done) | (simp; omega))) [World.cell?_alloc_at]; done) | (simp (disch := (first | (simp; done) | (simp; omega))) [World.cell?_alloc_past]; done) | (simp (disch := (first | (simp; done) | (simp; omega))) [World.cell?_alloc_at, World.cell?_alloc_past]; done) | (simp (disch := (first | (simp; done) | (simp; omega))) [World.frozen?_alloc_at]; done) | (simp (disch := (first | (simp; done) | (simp; omega))) [World.frozen?_alloc_past]; done) | (simp (disch := (first | (simp; done) | (simp; omega))) [World.frozen?_alloc_at, World.frozen?_alloc_past]; done))
  have c74 : w8.cell? ⟨w7.heap.size, 1, none⟩ = some (.slice S8 n1 k8) := by rw [ew8]; (first | (simp; done) | (simp (disch := (first | (simp; done) | (simp; omega))) [World.cell?_alloc_at]; done) | (simp (disch := (first | (simp; done) | (simp; omega))) [World.cell?_alloc_past]; done) | (simp (disch := (first | (simp; done) | (simp; omega))) [World.cell?_alloc_at, World.cell?_alloc_past]; done) | (simp (disch := (first | (simp; done) | (simp; omega))) [World.frozen?_alloc_at]; done) | (simp (disch := (first | (simp; done) | (simp; omega))) [World.frozen?_alloc_past]; done) | (simp (disch := (first | (simp; done) | (simp; omega))) [World.frozen?_alloc_at, World.frozen?_alloc_past]; done))
  have c75 : w8.cell? ⟨w7.heap.size, 2, none⟩ = some (.int .i64 a2) := by rw [ew8]; (first | (simp; done) | (simp (disch := (first | (simp; done) | (simp; omega))) [World.cell?_alloc_at]; done) | (simp (disch := (first | (simp; done) | (simp; omega))) [World.cell?_alloc_past]; done) | (simp (disch := (first | (simp; done) | (simp; omega))) [World.cell?_alloc_at, World.cell?_alloc_past]; done) | (simp (disch := (first | (simp; done) | (simp; omega))) [World.frozen?_alloc_at]; done) | (simp (disch := (first | (simp; done) | (simp; omega))) [World.frozen?_alloc_past]; done) | (simp (disch := (first | (simp; done) | (simp; omega))) [World.frozen?_alloc_at, World.frozen?_alloc_past]; done))
  have c76 : w8.cell? ⟨w7.heap.size, 3, none⟩ = some (.slice S9 n3 k9) := by rw [ew8]; (first | (simp; done) | (simp (disch := (first | (simp; done) | (simp; omega))) [World.cell?_alloc_at]; done) | (simp (disch := (first | (simp; done) | (simp; omega))) [World.cell?_alloc_past]; done) | (simp (disch := (first | (simp; done) | (simp; omega))) [World.cell?_alloc_at, World.cell?_alloc_past]; done) | (simp (disch := (first | (simp; done) | (simp; omega))) [World.frozen?_alloc_at]; done) | (simp (disch := (first | (simp; done) | (simp; omega))) [World.frozen?_alloc_past]; done) | (simp (disch := (first | (simp; done) | (simp; omega))) [World.frozen?_alloc_at, World.frozen?_alloc_past]; done))
  have c77 : w8.cell? ⟨w7.heap.size, 4, none⟩ = some (.string a4) := by rw [ew8]; (first | (simp; done) | (simp (disch := (first | (simp; done) | (simp; omega))) [World.cell?_alloc_at]; done) | (simp (disch := (first | (simp; done) | (simp; omega))) [World.cell?_alloc_past]; done) | (simp (disch := (first | (simp; done) | (simp; omega))) [World.cell?_alloc_at, World.cell?_alloc_past]; done) | (simp (disch := (first | (simp; done) | (simp; omega))) [World.frozen?_alloc_at]; done) | (simp (disch := (first | (simp; done) | (simp; omega))) [World.frozen?_alloc_past]; done) | (simp (disch := (first | (simp; done) | (simp; omega))) [World.frozen?_alloc_at, World.frozen?_alloc_past]; done))
  have yw8 : w8.heap.size = w7.heap.size + 1 := by rw [ew8]; simp
  clear ew8
  have hp1 := own_below hp1 hb8 (Nat.le_refl _)
  have hp2 := own_below hp2 hb8 (Nat.le_refl _)
  have hp3 := own_below hp3 hb8 (Nat.le_refl _)
  have hp4 := own_below hp4 hb8 (Nat.le_refl _)
  have hp5 := own_below hp5 hb8 (Nat.le_refl _)
  have hp6 := own_below hp6 hb8 (Nat.le_refl _)
  have hp7 := own_below hp7 hb8 (Nat.le_refl _)
  have hp8 := own_below hp8 hb8 (Nat.le_refl _)
  have hp9 := own_below hp9 hb8 (Nat.le_refl _)
  have c78 := (hb8.cell (p := ⟨w.heap.size, 0, none⟩) (by simp only []; omega)).trans c61
  clear c61
  have c79 := (hb8.cell (p := ⟨w.heap.size, 1, none⟩) (by simp only []; omega)).trans c62
  clear c62
  have c80 := (hb8.cell (p := ⟨w.heap.size, 2, none⟩) (by simp only []; omega)).trans c63
  clear c63
  have c81 := (hb8.cell (p := ⟨w.heap.size, 3, none⟩) (by simp only []; omega)).trans c64
  clear c64
  have c82 := (hb8.cell (p := ⟨w.heap.size, 4, none⟩) (by simp only []; omega)).trans c65
  clear c65
  have c83 := (hb8.cell (p := ⟨w.heap.size + 1, 0, none⟩) (by simp only []; omega)).trans c66
  clear c66
  have c84 := (hb8.cell (p := ⟨w.heap.size + 1, 1, none⟩) (by simp only []; omega)).trans c67
  clear c67
  have c85 := (hb8.cell (p := ⟨w.heap.size + 1, 2, none⟩) (by simp only []; omega)).trans c68
  clear c68
  have c86 := (hb8.cell (p := ⟨w.heap.size + 1, 3, none⟩) (by simp only []; omega)).trans c69
  clear c69
  have c87 := (hb8.cell (p := ⟨w.heap.size + 1, 4, none⟩) (by simp only []; omega)).trans c70
  clear c70
  have Bw8 : Below w.heap.size w w8 := Bw7.trans (hb8.mono Bw7.size)
  have zw8 := hb8.size
  go_wp2_with fail
  refine (toDesk_c w8 A5 n5 cap5 x5 hl5 hn5 (((hx5).below Bw8).more Bw8.size) A6 n6 cap6 x6 hl6 hn6 (((hx6).below Bw8).more Bw8.size) a7 A8 n8 cap8 x8 hl8 hn8 (((hx8).below Bw8).more Bw8.size) a9).mono ?_
  rintro e w9 ⟨v0, v1, v3, rfl, ho9_0, ho9_1, ho9_3, hb9⟩
  have hp1 := own_below hp1 hb9 (Nat.le_refl _)
  have hp2 := own_below hp2 hb9 (Nat.le_refl _)
  have hp3 := own_below hp3 hb9 (Nat.le_refl _)
  have hp4 := own_below hp4 hb9 (Nat.le_refl _)
  have hp5 := own_below hp5 hb9 (Nat.le_refl _)
  have hp6 := own_below hp6 hb9 (Nat.le_refl _)
  have hp7 := own_below hp7 hb9 (Nat.le_refl _)
  have hp8 := own_below hp8 hb9 (Nat.le_refl _)
  have hp9 := own_below hp9 hb9 (Nat.le_refl _)
  have c88 := (hb9.cell (p := ⟨w.heap.size, 0, none⟩) (by simp only []; omega)).trans c78
  clear c78
  have c89 := (hb9.cell (p := ⟨w.heap.size, 1, none⟩) (by simp only []; omega)).trans c79
  clear c79
  have c90 := (hb9.cell (p := ⟨w.heap.size, 2, none⟩) (by simp only []; omega)).trans c80
  clear c80
  have c91 := (hb9.cell (p := ⟨w.heap.size, 3, none⟩) (by simp only []; omega)).trans c81
  clear c81
  have c92 := (hb9.cell (p := ⟨w.heap.size, 4, none⟩) (by simp only []; omega)).trans c82
  clear c82
  have c93 := (hb9.cell (p := ⟨w.heap.size + 1, 0, none⟩) (by simp only []; omega)).trans c83
  clear c83
  have c94 := (hb9.cell (p := ⟨w.heap.size + 1, 1, none⟩) (by simp only []; omega)).trans c84
  clear c84
  have c95 := (hb9.cell (p := ⟨w.heap.size + 1, 2, none⟩) (by simp only []; omega)).trans c85
  clear c85
  have c96 := (hb9.cell (p := ⟨w.heap.size + 1, 3, none⟩) (by simp only []; omega)).trans c86
  clear c86
  have c97 := (hb9.cell (p := ⟨w.heap.size + 1, 4, none⟩) (by simp only []; omega)).trans c87
  clear c87
  have c98 := (hb9.cell (p := ⟨w7.heap.size, 0, none⟩) (by simp only []; omega)).trans c73
  clear c73
  have c99 := (hb9.cell (p := ⟨w7.heap.size, 1, none⟩) (by simp only []; omega)).trans c74
  clear c74
  have c100 := (hb9.cell (p := ⟨w7.heap.size, 2, none⟩) (by simp only []; omega)).trans c75
  clear c75
  have c101 := (hb9.cell (p := ⟨w7.heap.size, 3, none⟩) (by simp only []; omega)).trans c76
  clear c76
  have c102 := (hb9.cell (p := ⟨w7.heap.size, 4, none⟩) (by simp only []; omega)).trans c77
  clear c77
  have Bw9 : Below w.heap.size w w9 := Bw8.trans (hb9.mono Bw8.size)
  have zw9 := hb9.size
  obtain ⟨S10, k10, rfl, hp10⟩ := ho9_0.opn
  rw [hl5] at hp10 ⊢
  clear ho9_0
  have hi10 := Lib.hid (own_in hp10)
  obtain ⟨S11, k11, rfl, hp11⟩ := ho9_1.opn
  rw [hl6] at hp11 ⊢
  clear ho9_1
  have hi11 := Lib.hid (own_in hp11)
  obtain ⟨S12, k12, rfl, hp12⟩ := ho9_3.opn
  rw [hl8] at hp12 ⊢
  clear ho9_3
  have hi12 := Lib.hid (own_in hp12)
  have l9_102 : w.heap.size < w9.heap.size := by omega
  have l9_103 : w.heap.size + 1 < w9.heap.size := by omega
  have l9_104 : w7.heap.size < w9.heap.size := by omega
  go_wp2_with fail
  obtain ⟨w10, ew10⟩ : ∃ q : World, q = w9.alloc (.cells #[.slice S10 n5 k10, .slice S11 n6 k11, .int .i64 a7, .slice S12 n8 k12, .string a9] 84) := ⟨_, rfl⟩
  rw [← ew10]
  have hb10 : Below w9.heap.size w9 w10 := by rw [ew10]; exact (Below.refl _ _).alloc (Nat.le_refl _) _
  have c106 : w10.cell? ⟨w9.heap.size, 0, none⟩ = some (.slice S10 n5 k10) := by rw [ew10]; (first | (simp; done) | (simp (disch := (first | (simp; done) | (simp; omega))) [World.cell?_alloc_at]; done) | (simp (disch := (first | (simp; done) | (simp; omega))) [World.cell?_alloc_past]; done) | (simp (disch := (first | (simp; done) | (simp; omega))) [World.cell?_alloc_at, World.cell?_alloc_past]; done) | (simp (disch := (first | (simp; done) | (simp; omega))) [World.frozen?_alloc_at]; done) | (simp (disch := (first | (simp; done) | (simp; omega))) [World.frozen?_alloc_past]; done) | (simp (disch := (first | (simp; done) | (simp; omega))) [World.frozen?_alloc_at, World.frozen?_alloc_past]; done))
  have c107 : w10.cell? ⟨w9.heap.size, 1, none⟩ = some (.slice S11 n6 k11) := by rw [ew10]; (first | (simp; done) | (simp (disch := (first | (simp; done) | (simp; omega))) [World.cell?_alloc_at]; done) | (simp (disch := (first | (simp; done) | (simp; omega))) [World.cell?_alloc_past]; done) | (simp (disch := (first | (simp; done) | (simp; omega))) [World.cell?_alloc_at, World.cell?_alloc_past]; done) | (simp (disch := (first | (simp; done) | (simp; omega))) [World.frozen?_alloc_at]; done) | (simp (disch := (first | (simp; done) | (simp; omega))) [World.frozen?_alloc_past]; done) | (simp (disch := (first | (simp; done) | (simp; omega))) [World.frozen?_alloc_at, World.frozen?_alloc_past]; done))
  have c108 : w10.cell? ⟨w9.heap.size, 2, none⟩ = some (.int .i64 a7) := by rw [ew10]; (first | (simp; done) | (simp (disch := (first | (simp; done) | (simp; omega))) [World.cell?_alloc_at]; done) | (simp (disch := (first | (simp; done) | (simp; omega))) [World.cell?_alloc_past]; done) | (simp (disch := (first | (simp; done) | (simp; omega))) [World.cell?_alloc_at, World.cell?_alloc_past]; done) | (simp (disch := (first | (simp; done) | (simp; omega))) [World.frozen?_alloc_at]; done) | (simp (disch := (first | (simp; done) | (simp; omega))) [World.frozen?_alloc_past]; done) | (simp (disch := (first | (simp; done) | (simp; omega))) [World.frozen?_alloc_at, World.frozen?_alloc_past]; done))
  have c109 : w10.cell? ⟨w9.heap.size, 3, none⟩ = some (.slice S12 n8 k12) := by rw [ew10]; (first | (simp; done) | (simp (disch := (first | (simp; done) | (simp; omega))) [World.cell?_alloc_at]; done) | (simp (disch := (first | (simp; done) | (simp; omega))) [World.cell?_alloc_past]; done) | (simp (disch := (first | (simp; done) | (simp; omega))) [World.cell?_alloc_at, World.cell?_alloc_past]; done) | (simp (disch := (first | (simp; done) | (simp; omega))) [World.frozen?_alloc_at]; done) | (simp (disch := (first | (simp; done) | (simp; omega))) [World.frozen?_alloc_past]; done) | (simp (disch := (first | (simp; done) | (simp; omega))) [World.frozen?_alloc_at, World.frozen?_alloc_past]; done))
  have c110 : w10.cell? ⟨w9.heap.size, 4, none⟩ = some (.string a9) := by rw [ew10]; (first | (simp; done) | (simp (disch := (first | (simp; done) | (simp; omega))) [World.cell?_alloc_at]; done) | (simp (disch := (first | (simp; done) | (simp; omega))) [World.cell?_alloc_past]; done) | (simp (disch := (first | (simp; done) | (simp; omega))) [World.cell?_alloc_at, World.cell?_alloc_past]; done) | (simp (disch := (first | (simp; done) | (simp; omega))) [World.frozen?_alloc_at]; done) | (simp (disch := (first | (simp; done) | (simp; omega))) [World.frozen?_alloc_past]; done) | (simp (disch := (first | (simp; done) | (simp; omega))) [World.frozen?_alloc_at, World.frozen?_alloc_past]; done))
  have yw10 : w10.heap.size = w9.heap.size + 1 := by rw [ew10]; simp
  clear ew10
  have hp1 := own_below hp1 hb10 (Nat.le_refl _)
  have hp2 := own_below hp2 hb10 (Nat.le_refl _)
  have hp3 := own_below hp3 hb10 (Nat.le_refl _)
  have hp4 := own_below hp4 hb10 (Nat.le_refl _)
  have hp5 := own_below hp5 hb10 (Nat.le_refl _)
  have hp6 := own_below hp6 hb10 (Nat.le_refl _)
  have hp7 := own_below hp7 hb10 (Nat.le_refl _)
  have hp8 := own_below hp8 hb10 (Nat.le_refl _)
  have hp9 := own_below hp9 hb10 (Nat.le_refl _)
  have hp10 := own_below hp10 hb10 (Nat.le_refl _)
  have hp11 := own_below hp11 hb10 (Nat.le_refl _)
  have hp12 := own_below hp12 hb10 (Nat.le_refl _)
  have c111 := (hb10.cell (p := ⟨w.heap.size, 0, none⟩) (by simp only []; omega)).trans c88
  clear c88
  have c112 := (hb10.cell (p := ⟨w.heap.size, 1, none⟩) (by simp only []; omega)).trans c89
  clear c89
  have c113 := (hb10.cell (p := ⟨w.heap.size, 2, none⟩) (by simp only []; omega)).trans c90
  clear c90
  have c114 := (hb10.cell (p := ⟨w.heap.size, 3, none⟩) (by simp only []; omega)).trans c91
  clear c91
  have c115 := (hb10.cell (p := ⟨w.heap.size, 4, none⟩) (by simp only []; omega)).trans c92
  clear c92
  have c116 := (hb10.cell (p := ⟨w.heap.size + 1, 0, none⟩) (by simp only []; omega)).trans c93
  clear c93
  have c117 := (hb10.cell (p := ⟨w.heap.size + 1, 1, none⟩) (by simp only []; omega)).trans c94
  clear c94
  have c118 := (hb10.cell (p := ⟨w.heap.size + 1, 2, none⟩) (by simp only []; omega)).trans c95
  clear c95
  have c119 := (hb10.cell (p := ⟨w.heap.size + 1, 3, none⟩) (by simp only []; omega)).trans c96
  clear c96
  have c120 := (hb10.cell (p := ⟨w.heap.size + 1, 4, none⟩) (by simp only []; omega)).trans c97
  clear c97
  have c121 := (hb10.cell (p := ⟨w7.heap.size, 0, none⟩) (by simp only []; omega)).trans c98
  clear c98
  have c122 := (hb10.cell (p := ⟨w7.heap.size, 1, none⟩) (by simp only []; omega)).trans c99
  clear c99
  have c123 := (hb10.cell (p := ⟨w7.heap.size, 2, none⟩) (by simp only []; omega)).trans c100
  clear c100
  have c124 := (hb10.cell (p := ⟨w7.heap.size, 3, none⟩) (by simp only []; omega)).trans c101
  clear c101
  have c125 := (hb10.cell (p := ⟨w7.heap.size, 4, none⟩) (by simp only []; omega)).trans c102
  clear c102
  have Bw10 : Below w.heap.size w w10 := Bw9.trans (hb10.mono Bw9.size)
  have zw10 := hb10.size
  go_wp2_with fail
  refine (impl_SameDesk_c w10 S7 n0 k7 x0 hl0 hn0 (sl_of_own hp7) hf0 S8 n1 k8 x1 hl1 hn1 (sl_of_own hp8) a2 S9 n3 k9 x3 hl3 hn3 (sl_of_own hp9) a4 hsa4 S10 n5 k10 x5 hl5 hn5 (sl_of_own hp10) hf5 S11 n6 k11 x6 hl6 hn6 (sl_of_own hp11) a7 S12 n8 k12 x8 hl8 hn8 (sl_of_own hp12) a9 hsa9).mono ?_
  rintro e w11 ⟨rfl, hb11⟩
  have hp1 := own_below hp1 hb11 (Nat.le_refl _)
  have hp2 := own_below hp2 hb11 (Nat.le_refl _)
  have hp3 := own_below hp3 hb11 (Nat.le_refl _)
  have hp4 := own_below hp4 hb11 (Nat.le_refl _)
  have hp5 := own_below hp5 hb11 (Nat.le_refl _)
  have hp6 := own_below hp6 hb11 (Nat.le_refl _)
  have hp7 := own_below hp7 hb11 (Nat.le_refl _)
  have hp8 := own_below hp8 hb11 (Nat.le_refl _)
  have hp9 := own_below hp9 hb11 (Nat.le_refl _)
  have hp10 := own_below hp10 hb11 (Nat.le_refl _)
  have hp11 := own_below hp11 hb11 (Nat.le_refl _)
  have hp12 := own_below hp12 hb11 (Nat.le_refl _)
  have c126 := (hb11.cell (p := ⟨w.heap.size, 0, none⟩) (by simp only []; omega)).trans c111
  clear c111
  have c127 := (hb11.cell (p := ⟨w.heap.size, 1, none⟩) (by simp only []; omega)).trans c112
  clear c112
  have c128 := (hb11.cell (p := ⟨w.heap.size, 2, none⟩) (by simp only []; omega)).trans c113
  clear c113
  have c129 := (hb11.cell (p := ⟨w.heap.size, 3, none⟩) (by simp only []; omega)).trans c114
  clear c114
  have c130 := (hb11.cell (p := ⟨w.heap.size, 4, none⟩) (by simp only []; omega)).trans c115
  clear c115
  have c131 := (hb11.cell (p := ⟨w.heap.size + 1, 0, none⟩) (by simp only []; omega)).trans c116
  clear c116
  have c132 := (hb11.cell (p := ⟨w.heap.size + 1, 1, none⟩) (by simp only []; omega)).trans c117
  clear c117
  have c133 := (hb11.cell (p := ⟨w.heap.size + 1, 2, none⟩) (by simp only []; omega)).trans c118
  clear c118
  have c134 := (hb11.cell (p := ⟨w.heap.size + 1, 3, none⟩) (by simp only []; omega)).trans c119
  clear c119
  have c135 := (hb11.cell (p := ⟨w.heap.size + 1, 4, none⟩) (by simp only []; omega)).trans c120
  clear c120
  have c136 := (hb11.cell (p := ⟨w7.heap.size, 0, none⟩) (by simp only []; omega)).trans c121
  clear c121
  have c137 := (hb11.cell (p := ⟨w7.heap.size, 1, none⟩) (by simp only []; omega)).trans c122
  clear c122
  have c138 := (hb11.cell (p := ⟨w7.heap.size, 2, none⟩) (by simp only []; omega)).trans c123
  clear c123
  have c139 := (hb11.cell (p := ⟨w7.heap.size, 3, none⟩) (by simp only []; omega)).trans c124
  clear c124
  have c140 := (hb11.cell (p := ⟨w7.heap.size, 4, none⟩) (by simp only []; omega)).trans c125
  clear c125
  have c141 := (hb11.cell (p := ⟨w9.heap.size, 0, none⟩) (by simp only []; omega)).trans c106
  clear c106
  have c142 := (hb11.cell (p := ⟨w9.heap.size, 1, none⟩) (by simp only []; omega)).trans c107
  clear c107
  have c143 := (hb11.cell (p := ⟨w9.heap.size, 2, none⟩) (by simp only []; omega)).trans c108
  clear c108
  have c144 := (hb11.cell (p := ⟨w9.heap.size, 3, none⟩) (by simp only []; omega)).trans c109
  clear c109
  have c145 := (hb11.cell (p := ⟨w9.heap.size, 4, none⟩) (by simp only []; omega)).trans c110
  clear c110
  have Bw11 : Below w.heap.size w w11 := Bw10.trans (hb11.mono Bw10.size)
  have zw11 := hb11.size
  go_wp2_with fail
  go_region_held3 (fun w' => w'.cell? ⟨w7.heap.size, 0, none⟩ = some (.slice S7 n0 k7) ∧ w'.cell? ⟨w7.heap.size, 1, none⟩ = some (.slice S8 n1 k8) ∧ w'.cell? ⟨w7.heap.size, 2, none⟩ = some (.int .i64 a2) ∧ w'.cell? ⟨w7.heap.size, 3, none⟩ = some (.slice S9 n3 k9) ∧ w'.cell? ⟨w7.heap.size, 4, none⟩ = some (.string a4) ∧ w'.cell? ⟨w.heap.size, 0, none⟩ = some (.slice A0 n0 cap0) ∧ w'.cell? ⟨w.heap.size, 1, none⟩ = some (.slice A1 n1 cap1) ∧ w'.cell? ⟨w.heap.size, 2, none⟩ = some (.int .i64 a2) ∧ w'.cell? ⟨w.heap.size, 3, none⟩ = some (.slice A3 n3 cap3) ∧ w'.cell? ⟨w.heap.size, 4, none⟩ = some (.string a4))
    (first | exact ⟨c176, c177, c178, c179, c180, c166, c167, c168, c169, c170⟩ | exact ⟨c156, c157, c158, c159, c160, c146, c147, c148, c149, c150⟩ | exact ⟨c136, c137, c138, c139, c140, c126, c127, c128, c129, c130⟩)
    (first
      | (go_at_call 51; refine (eqDesk_t w12 S7 S13 n0 k7 k13 x0 hl0 (Nat.le_trans hn0 (by decide)) (sl_of_own hp7) (sl_of_own hp13) S8 S14 n1 k8 k14 x1 hl1 (Nat.le_trans hn1 (by decide)) (sl_of_own hp8) (sl_of_own hp14) a2 S9 S15 n3 k9 k15 x3 hl3 (Nat.le_trans hn3 (by decide)) (sl_of_own hp9) (sl_of_own hp15) a4).mono ?_; rintro e w13 ⟨rfl, hb13⟩; have hp1 := own_below hp1 hb13 (Nat.le_refl _); have hp2 := own_below hp2 hb13 (Nat.le_refl _); have hp3 := own_below hp3 hb13 (Nat.le_refl _); have hp4 := own_below hp4 hb13 (Nat.le_refl _); have hp5 := own_below hp5 hb13 (Nat.le_refl _); have hp6 := own_below hp6 hb13 (Nat.le_refl _); have hp7 := own_below hp7 hb13 (Nat.le_refl _); have hp8 := own_below hp8 hb13 (Nat.le_refl _); have hp9 := own_below hp9 hb13 (Nat.le_refl _); have hp10 := own_below hp10 hb13 (Nat.le_refl _); have hp11 := own_below hp11 hb13 (Nat.le_refl _); have hp12 := own_below hp12 hb13 (Nat.le_refl _); have hp13 := own_below hp13 hb13 (Nat.le_refl _); have hp14 := own_below hp14 hb13 (Nat.le_refl _); have hp15 := own_below hp15 hb13 (Nat.le_refl _); have c166 := (hb13.cell (p := ⟨w.heap.size, 0, none⟩) (by simp only []; omega)).trans c146; have c167 := (hb13.cell (p := ⟨w.heap.size, 1, none⟩) (by simp only []; omega)).trans c147; have c168 := (hb13.cell (p := ⟨w.heap.size, 2, none⟩) (by simp only []; omega)).trans c148; have c169 := (hb13.cell (p := ⟨w.heap.size, 3, none⟩) (by simp only []; omega)).trans c149; have c170 := (hb13.cell (p := ⟨w.heap.size, 4, none⟩) (by simp only []; omega)).trans c150; have c171 := (hb13.cell (p := ⟨w.heap.size + 1, 0, none⟩) (by simp only []; omega)).trans c151; have c172 := (hb13.cell (p := ⟨w.heap.size + 1, 1, none⟩) (by simp only []; omega)).trans c152; have c173 := (hb13.cell (p := ⟨w.heap.size + 1, 2, none⟩) (by simp only []; omega)).trans c153; have c174 := (hb13.cell (p := ⟨w.heap.size + 1, 3, none⟩) (by simp only []; omega)).trans c154; have c175 := (hb13.cell (p := ⟨w.heap.size + 1, 4, none⟩) (by simp only []; omega)).trans c155; have c176 := (hb13.cell (p := ⟨w7.heap.size, 0, none⟩) (by simp only []; omega)).trans c156; have c177 := (hb13.cell (p := ⟨w7.heap.size, 1, none⟩) (by simp only []; omega)).trans c157; have c178 := (hb13.cell (p := ⟨w7.heap.size, 2, none⟩) (by simp only []; omega)).trans c158; have c179 := (hb13.cell (p := ⟨w7.heap.size, 3, none⟩) (by simp only []; omega)).trans c159; have c180 := (hb13.cell (p := ⟨w7.heap.size, 4, none⟩) (by simp only []; omega)).trans c160; have c181 := (hb13.cell (p := ⟨w9.heap.size, 0, none⟩) (by simp only []; omega)).trans c161; have c182 := (hb13.cell (p := ⟨w9.heap.size, 1, none⟩) (by simp only []; omega)).trans c162; have c183 := (hb13.cell (p := ⟨w9.heap.size, 2, none⟩) (by simp only []; omega)).trans c163; have c184 := (hb13.cell (p := ⟨w9.heap.size, 3, none⟩) (by simp only []; omega)).trans c164; have c185 := (hb13.cell (p := ⟨w9.heap.size, 4, none⟩) (by simp only []; omega)).trans c165; have Bw13 : Below w.heap.size w w13 := Bw12.trans (hb13.mono Bw12.size); have zw13 := hb13.size)
      | (go_at_call 49; refine (toDesk_c w11.drew A0 n0 cap0 x0 hl0 hn0 (((hx0).below Bw11).more Bw11.size) A1 n1 cap1 x1 hl1 hn1 (((hx1).below Bw11).more Bw11.size) a2 A3 n3 cap3 x3 hl3 hn3 (((hx3).below Bw11).more Bw11.size) a4).mono ?_; rintro e w12 ⟨v0, v1, v3, rfl, ho12_0, ho12_1, ho12_3, hb12⟩; have hb12 := below_undrew hb12; have zd12 : w11.drew.heap.size = w11.heap.size := rfl; have hp1 := own_below hp1 hb12 (Nat.le_refl _); have hp2 := own_below hp2 hb12 (Nat.le_refl _); have hp3 := own_below hp3 hb12 (Nat.le_refl _); have hp4 := own_below hp4 hb12 (Nat.le_refl _); have hp5 := own_below hp5 hb12 (Nat.le_refl _); have hp6 := own_below hp6 hb12 (Nat.le_refl _); have hp7 := own_below hp7 hb12 (Nat.le_refl _); have hp8 := own_below hp8 hb12 (Nat.le_refl _); have hp9 := own_below hp9 hb12 (Nat.le_refl _); have hp10 := own_below hp10 hb12 (Nat.le_refl _); have hp11 := own_below hp11 hb12 (Nat.le_refl _); have hp12 := own_below hp12 hb12 (Nat.le_refl _); have c146 := (hb12.cell (p := ⟨w.heap.size, 0, none⟩) (by simp only []; omega)).trans c126; have c147 := (hb12.cell (p := ⟨w.heap.size, 1, none⟩) (by simp only []; omega)).trans c127; have c148 := (hb12.cell (p := ⟨w.heap.size, 2, none⟩) (by simp only []; omega)).trans c128; have c149 := (hb12.cell (p := ⟨w.heap.size, 3, none⟩) (by simp only []; omega)).trans c129; have c150 := (hb12.cell (p := ⟨w.heap.size, 4, none⟩) (by simp only []; omega)).trans c130; have c151 := (hb12.cell (p := ⟨w.heap.size + 1, 0, none⟩) (by simp only []; omega)).trans c131; have c152 := (hb12.cell (p := ⟨w.heap.size + 1, 1, none⟩) (by simp only []; omega)).trans c132; have c153 := (hb12.cell (p := ⟨w.heap.size + 1, 2, none⟩) (by simp only []; omega)).trans c133; have c154 := (hb12.cell (p := ⟨w.heap.size + 1, 3, none⟩) (by simp only []; omega)).trans c134; have c155 := (hb12.cell (p := ⟨w.heap.size + 1, 4, none⟩) (by simp only []; omega)).trans c135; have c156 := (hb12.cell (p := ⟨w7.heap.size, 0, none⟩) (by simp only []; omega)).trans c136; have c157 := (hb12.cell (p := ⟨w7.heap.size, 1, none⟩) (by simp only []; omega)).trans c137; have c158 := (hb12.cell (p := ⟨w7.heap.size, 2, none⟩) (by simp only []; omega)).trans c138; have c159 := (hb12.cell (p := ⟨w7.heap.size, 3, none⟩) (by simp only []; omega)).trans c139; have c160 := (hb12.cell (p := ⟨w7.heap.size, 4, none⟩) (by simp only []; omega)).trans c140; have c161 := (hb12.cell (p := ⟨w9.heap.size, 0, none⟩) (by simp only []; omega)).trans c141; have c162 := (hb12.cell (p := ⟨w9.heap.size, 1, none⟩) (by simp only []; omega)).trans c142; have c163 := (hb12.cell (p := ⟨w9.heap.size, 2, none⟩) (by simp only []; omega)).trans c143; have c164 := (hb12.cell (p := ⟨w9.heap.size, 3, none⟩) (by simp only []; omega)).trans c144; have c165 := (hb12.cell (p := ⟨w9.heap.size, 4, none⟩) (by simp only []; omega)).trans c145; have Bw12 : Below w.heap.size w w12 := Bw11.trans (hb12.mono Bw11.size); have zw12 := hb12.size; obtain ⟨S13, k13, rfl, hp13⟩ := ho12_0.opn; rw [hl0] at hp13 ⊢; clear ho12_0; have hi13 := Lib.hid (own_in hp13); obtain ⟨S14, k14, rfl, hp14⟩ := ho12_1.opn; rw [hl1] at hp14 ⊢; clear ho12_1; have hi14 := Lib.hid (own_in hp14); obtain ⟨S15, k15, rfl, hp15⟩ := ho12_3.opn; rw [hl3] at hp15 ⊢; clear ho12_3; have hi15 := Lib.hid (own_in hp15)))
  go_wp2_with fail
  go_region_held3 (fun w' => w'.cell? ⟨w9.heap.size, 0, none⟩ = some (.slice S10 n5 k10) ∧ w'.cell? ⟨w9.heap.size, 1, none⟩ = some (.slice S11 n6 k11) ∧ w'.cell? ⟨w9.heap.size, 2, none⟩ = some (.int .i64 a7) ∧ w'.cell? ⟨w9.heap.size, 3, none⟩ = some (.slice S12 n8 k12) ∧ w'.cell? ⟨w9.heap.size, 4, none⟩ = some (.string a9) ∧ w'.cell? ⟨w.heap.size + 1, 0, none⟩ = some (.slice A5 n5 cap5) ∧ w'.cell? ⟨w.heap.size + 1, 1, none⟩ = some (.slice A6 n6 cap6) ∧ w'.cell? ⟨w.heap.size + 1, 2, none⟩ = some (.int .i64 a7) ∧ w'.cell? ⟨w.heap.size + 1, 3, none⟩ = some (.slice A8 n8 cap8) ∧ w'.cell? ⟨w.heap.size + 1, 4, none⟩ = some (.string a9))
    (first | exact ⟨c221, c222, c223, c224, c225, c211, c212, c213, c214, c215⟩ | exact ⟨c201, c202, c203, c204, c205, c191, c192, c193, c194, c195⟩ | exact ⟨c181, c182, c183, c184, c185, c171, c172, c173, c174, c175⟩)
    (first
      | (go_at_call 51; refine (eqDesk_t w14 S10 S16 n5 k10 k16 x5 hl5 (Nat.le_trans hn5 (by decide)) (sl_of_own hp10) (sl_of_own hp16) S11 S17 n6 k11 k17 x6 hl6 (Nat.le_trans hn6 (by decide)) (sl_of_own hp11) (sl_of_own hp17) a7 S12 S18 n8 k12 k18 x8 hl8 (Nat.le_trans hn8 (by decide)) (sl_of_own hp12) (sl_of_own hp18) a9).mono ?_; rintro e w15 ⟨rfl, hb15⟩; have hp1 := own_below hp1 hb15 (Nat.le_refl _); have hp2 := own_below hp2 hb15 (Nat.le_refl _); have hp3 := own_below hp3 hb15 (Nat.le_refl _); have hp4 := own_below hp4 hb15 (Nat.le_refl _); have hp5 := own_below hp5 hb15 (Nat.le_refl _); have hp6 := own_below hp6 hb15 (Nat.le_refl _); have hp7 := own_below hp7 hb15 (Nat.le_refl _); have hp8 := own_below hp8 hb15 (Nat.le_refl _); have hp9 := own_below hp9 hb15 (Nat.le_refl _); have hp10 := own_below hp10 hb15 (Nat.le_refl _); have hp11 := own_below hp11 hb15 (Nat.le_refl _); have hp12 := own_below hp12 hb15 (Nat.le_refl _); have hp13 := own_below hp13 hb15 (Nat.le_refl _); have hp14 := own_below hp14 hb15 (Nat.le_refl _); have hp15 := own_below hp15 hb15 (Nat.le_refl _); have hp16 := own_below hp16 hb15 (Nat.le_refl _); have hp17 := own_below hp17 hb15 (Nat.le_refl _); have hp18 := own_below hp18 hb15 (Nat.le_refl _); have c206 := (hb15.cell (p := ⟨w.heap.size, 0, none⟩) (by simp only []; omega)).trans c186; have c207 := (hb15.cell (p := ⟨w.heap.size, 1, none⟩) (by simp only []; omega)).trans c187; have c208 := (hb15.cell (p := ⟨w.heap.size, 2, none⟩) (by simp only []; omega)).trans c188; have c209 := (hb15.cell (p := ⟨w.heap.size, 3, none⟩) (by simp only []; omega)).trans c189; have c210 := (hb15.cell (p := ⟨w.heap.size, 4, none⟩) (by simp only []; omega)).trans c190; have c211 := (hb15.cell (p := ⟨w.heap.size + 1, 0, none⟩) (by simp only []; omega)).trans c191; have c212 := (hb15.cell (p := ⟨w.heap.size + 1, 1, none⟩) (by simp only []; omega)).trans c192; have c213 := (hb15.cell (p := ⟨w.heap.size + 1, 2, none⟩) (by simp only []; omega)).trans c193; have c214 := (hb15.cell (p := ⟨w.heap.size + 1, 3, none⟩) (by simp only []; omega)).trans c194; have c215 := (hb15.cell (p := ⟨w.heap.size + 1, 4, none⟩) (by simp only []; omega)).trans c195; have c216 := (hb15.cell (p := ⟨w7.heap.size, 0, none⟩) (by simp only []; omega)).trans c196; have c217 := (hb15.cell (p := ⟨w7.heap.size, 1, none⟩) (by simp only []; omega)).trans c197; have c218 := (hb15.cell (p := ⟨w7.heap.size, 2, none⟩) (by simp only []; omega)).trans c198; have c219 := (hb15.cell (p := ⟨w7.heap.size, 3, none⟩) (by simp only []; omega)).trans c199; have c220 := (hb15.cell (p := ⟨w7.heap.size, 4, none⟩) (by simp only []; omega)).trans c200; have c221 := (hb15.cell (p := ⟨w9.heap.size, 0, none⟩) (by simp only []; omega)).trans c201; have c222 := (hb15.cell (p := ⟨w9.heap.size, 1, none⟩) (by simp only []; omega)).trans c202; have c223 := (hb15.cell (p := ⟨w9.heap.size, 2, none⟩) (by simp only []; omega)).trans c203; have c224 := (hb15.cell (p := ⟨w9.heap.size, 3, none⟩) (by simp only []; omega)).trans c204; have c225 := (hb15.cell (p := ⟨w9.heap.size, 4, none⟩) (by simp only []; omega)).trans c205; have Bw15 : Below w.heap.size w w15 := Bw14.trans (hb15.mono Bw14.size); have zw15 := hb15.size)
      | (go_at_call 49; refine (toDesk_c w13.drew A5 n5 cap5 x5 hl5 hn5 (((hx5).below Bw13).more Bw13.size) A6 n6 cap6 x6 hl6 hn6 (((hx6).below Bw13).more Bw13.size) a7 A8 n8 cap8 x8 hl8 hn8 (((hx8).below Bw13).more Bw13.size) a9).mono ?_; rintro e w14 ⟨v0, v1, v3, rfl, ho14_0, ho14_1, ho14_3, hb14⟩; have hb14 := below_undrew hb14; have zd14 : w13.drew.heap.size = w13.heap.size := rfl; have hp1 := own_below hp1 hb14 (Nat.le_refl _); have hp2 := own_below hp2 hb14 (Nat.le_refl _); have hp3 := own_below hp3 hb14 (Nat.le_refl _); have hp4 := own_below hp4 hb14 (Nat.le_refl _); have hp5 := own_below hp5 hb14 (Nat.le_refl _); have hp6 := own_below hp6 hb14 (Nat.le_refl _); have hp7 := own_below hp7 hb14 (Nat.le_refl _); have hp8 := own_below hp8 hb14 (Nat.le_refl _); have hp9 := own_below hp9 hb14 (Nat.le_refl _); have hp10 := own_below hp10 hb14 (Nat.le_refl _); have hp11 := own_below hp11 hb14 (Nat.le_refl _); have hp12 := own_below hp12 hb14 (Nat.le_refl _); have hp13 := own_below hp13 hb14 (Nat.le_refl _); have hp14 := own_below hp14 hb14 (Nat.le_refl _); have hp15 := own_below hp15 hb14 (Nat.le_refl _); have c186 := (hb14.cell (p := ⟨w.heap.size, 0, none⟩) (by simp only []; omega)).trans c166; have c187 := (hb14.cell (p := ⟨w.heap.size, 1, none⟩) (by simp only []; omega)).trans c167; have c188 := (hb14.cell (p := ⟨w.heap.size, 2, none⟩) (by simp only []; omega)).trans c168; have c189 := (hb14.cell (p := ⟨w.heap.size, 3, none⟩) (by simp only []; omega)).trans c169; have c190 := (hb14.cell (p := ⟨w.heap.size, 4, none⟩) (by simp only []; omega)).trans c170; have c191 := (hb14.cell (p := ⟨w.heap.size + 1, 0, none⟩) (by simp only []; omega)).trans c171; have c192 := (hb14.cell (p := ⟨w.heap.size + 1, 1, none⟩) (by simp only []; omega)).trans c172; have c193 := (hb14.cell (p := ⟨w.heap.size + 1, 2, none⟩) (by simp only []; omega)).trans c173; have c194 := (hb14.cell (p := ⟨w.heap.size + 1, 3, none⟩) (by simp only []; omega)).trans c174; have c195 := (hb14.cell (p := ⟨w.heap.size + 1, 4, none⟩) (by simp only []; omega)).trans c175; have c196 := (hb14.cell (p := ⟨w7.heap.size, 0, none⟩) (by simp only []; omega)).trans c176; have c197 := (hb14.cell (p := ⟨w7.heap.size, 1, none⟩) (by simp only []; omega)).trans c177; have c198 := (hb14.cell (p := ⟨w7.heap.size, 2, none⟩) (by simp only []; omega)).trans c178; have c199 := (hb14.cell (p := ⟨w7.heap.size, 3, none⟩) (by simp only []; omega)).trans c179; have c200 := (hb14.cell (p := ⟨w7.heap.size, 4, none⟩) (by simp only []; omega)).trans c180; have c201 := (hb14.cell (p := ⟨w9.heap.size, 0, none⟩) (by simp only []; omega)).trans c181; have c202 := (hb14.cell (p := ⟨w9.heap.size, 1, none⟩) (by simp only []; omega)).trans c182; have c203 := (hb14.cell (p := ⟨w9.heap.size, 2, none⟩) (by simp only []; omega)).trans c183; have c204 := (hb14.cell (p := ⟨w9.heap.size, 3, none⟩) (by simp only []; omega)).trans c184; have c205 := (hb14.cell (p := ⟨w9.heap.size, 4, none⟩) (by simp only []; omega)).trans c185; have Bw14 : Below w.heap.size w w14 := Bw13.trans (hb14.mono Bw13.size); have zw14 := hb14.size; obtain ⟨S16, k16, rfl, hp16⟩ := ho14_0.opn; rw [hl5] at hp16 ⊢; clear ho14_0; have hi16 := Lib.hid (own_in hp16); obtain ⟨S17, k17, rfl, hp17⟩ := ho14_1.opn; rw [hl6] at hp17 ⊢; clear ho14_1; have hi17 := Lib.hid (own_in hp17); obtain ⟨S18, k18, rfl, hp18⟩ := ho14_3.opn; rw [hl8] at hp18 ⊢; clear ho14_3; have hi18 := Lib.hid (own_in hp18)))
  go_wp2
  go_ret
  exact ⟨rfl, Bw15⟩

end Go.Proofs.Ytpdblaldndmdoaa
