/-
  FnExactParityText returns true for every input, and leaves its arguments as they were.
  Conditions: none beyond the given statement's own.
-/
import Derived.Test.YthccklkonfappaaDoorH
import Derived.Deep.RegionHeld3
import Derived.Test.YthccklkonfappaaDoorDM
import Derived.Test.YthccklkonfappaaDoorSD
namespace Go.Proofs.YthccklkonfappaaDoor
open Go.RowKit

set_option maxRecDepth 100000 in
set_option maxHeartbeats 4000000 in
theorem law_ParityText (w : World) (a0 : Int) (A1 : Option Addr) (n1 cap1 : Nat) (x1 : List Int) (hl1 : x1.length = n1) (hm1 : n1 ≤ maxLen) (hx1 : Sl w w.heap.size A1 (x1.map (Value.int .i64))) (ht : Tab w) :
    Calls Tryd.prog 4 #[.agg #[.int .i64 a0, .slice A1 n1 cap1]] w fun e w' => e = .returned (.bool true) ∧ Below w.heap.size w w' := by
  unfold maxLen at hm1
  have hq : ∀ b : Bool, (b == b) = true := fun b => by simp
  go_enter Tryd.func4, Tryd.ntmps4
  go_wp2_with fail
  obtain ⟨w1, ew1⟩ : ∃ q : World, q = (w.alloc (.cells #[.int .i64 a0, .slice A1 n1 cap1] 33)) := ⟨_, rfl⟩
  rw [← ew1]
  have Bw1 : Below w.heap.size w w1 := by rw [ew1]; exact ((Below.refl _ _).alloc (Nat.le_refl _) _)
  have zw1 : w1.heap.size = w.heap.size + 1 := by rw [ew1]; simp
  have c1 : w1.cell? ⟨w.heap.size, 0, none⟩ = some (.int .i64 a0) := by rw [ew1]; (first | (simp; done) | (simp (disch := (first | (simp; done) | (simp; omega))) [World.cell?_alloc_at]; done) | (simp (disch := (first | (simp; done) | (simp; omega))) [World.cell?_alloc_past]; done) | (simp (disch := (first | (simp; done) | (simp; omega))) [World.cell?_alloc_at, World.cell?_alloc_past]; done) | (simp (disch := (first | (simp; done) | (simp; omega))) [World.frozen?_alloc_at]; done) | (simp (disch := (first | (simp; done) | (simp; omega))) [World.frozen?_alloc_past]; done) | (simp (disch := (first | (simp; done) | (simp; omega))) [World.frozen?_alloc_at, World.frozen?_alloc_past]; done))
  have c2 : w1.cell? ⟨w.heap.size, 1, none⟩ = some (.slice A1 n1 cap1) := by rw [ew1]; (first | (simp; done) | (simp (disch := (first | (simp; done) | (simp; omega))) [World.cell?_alloc_at]; done) | (simp (disch := (first | (simp; done) | (simp; omega))) [World.cell?_alloc_past]; done) | (simp (disch := (first | (simp; done) | (simp; omega))) [World.cell?_alloc_at, World.cell?_alloc_past]; done) | (simp (disch := (first | (simp; done) | (simp; omega))) [World.frozen?_alloc_at]; done) | (simp (disch := (first | (simp; done) | (simp; omega))) [World.frozen?_alloc_past]; done) | (simp (disch := (first | (simp; done) | (simp; omega))) [World.frozen?_alloc_at, World.frozen?_alloc_past]; done))
  clear ew1
  go_wp2_with fail
  refine (szParity_c w1 a0 A1 n1 cap1 1048576 (by omega) (by omega) (by omega)).mono ?_
  rintro e w2 ⟨rfl, hb2⟩
  have c3 := (hb2.cell (p := ⟨w.heap.size, 0, none⟩) (by simp only []; omega)).trans c1
  clear c1
  have c4 := (hb2.cell (p := ⟨w.heap.size, 1, none⟩) (by simp only []; omega)).trans c2
  clear c2
  have Bw2 : Below w.heap.size w w2 := Bw1.trans (hb2.mono Bw1.size)
  have zw2 := hb2.size
  have sq2 := szr_bd (left := 1048576) (by omega) (by omega) n1
  obtain ⟨q2, hq2⟩ : ∃ q, szr 1048576 n1 = q := ⟨_, rfl⟩
  rw [hq2] at sq2 ⊢
  clear hq2
  rcases sq2 with ⟨sq2, rfl⟩ | ⟨sq2, sq21, sq22⟩
  · go_wp2
    go_ret
    exact ⟨rfl, Bw2⟩
  have hn1 : n1 ≤ 1048576 := by omega
  go_wp2_with fail
  refine (toParity_c w2 a0 A1 n1 cap1 x1 hl1 hn1 (((hx1).below Bw2).more Bw2.size)).mono ?_
  rintro e w3 ⟨v1, rfl, ho3_1, hb3⟩
  have c5 := (hb3.cell (p := ⟨w.heap.size, 0, none⟩) (by simp only []; omega)).trans c3
  clear c3
  have c6 := (hb3.cell (p := ⟨w.heap.size, 1, none⟩) (by simp only []; omega)).trans c4
  clear c4
  have Bw3 : Below w.heap.size w w3 := Bw2.trans (hb3.mono Bw2.size)
  have zw3 := hb3.size
  obtain ⟨S1, k1, rfl, hp1⟩ := ho3_1.opn
  rw [hl1] at hp1 ⊢
  clear ho3_1
  have hi1 := Lib.hid (own_in hp1)
  go_wp2_with fail
  refine (spec_ParityText_c w3 a0 S1 n1 k1 x1 hl1 hn1 (sl_of_own hp1)).mono ?_
  rintro e w4 ⟨rfl, hb4⟩
  have hp1 := own_below hp1 hb4 (Nat.le_refl _)
  have c7 := (hb4.cell (p := ⟨w.heap.size, 0, none⟩) (by simp only []; omega)).trans c5
  clear c5
  have c8 := (hb4.cell (p := ⟨w.heap.size, 1, none⟩) (by simp only []; omega)).trans c6
  clear c6
  have Bw4 : Below w.heap.size w w4 := Bw3.trans (hb4.mono Bw3.size)
  have zw4 := hb4.size
  go_wp2_with fail
  refine (toParity_c w4 a0 A1 n1 cap1 x1 hl1 hn1 (((hx1).below Bw4).more Bw4.size)).mono ?_
  rintro e w5 ⟨v1, rfl, ho5_1, hb5⟩
  have hp1 := own_below hp1 hb5 (Nat.le_refl _)
  have c9 := (hb5.cell (p := ⟨w.heap.size, 0, none⟩) (by simp only []; omega)).trans c7
  clear c7
  have c10 := (hb5.cell (p := ⟨w.heap.size, 1, none⟩) (by simp only []; omega)).trans c8
  clear c8
  have Bw5 : Below w.heap.size w w5 := Bw4.trans (hb5.mono Bw4.size)
  have zw5 := hb5.size
  obtain ⟨S2, k2, rfl, hp2⟩ := ho5_1.opn
  rw [hl1] at hp2 ⊢
  clear ho5_1
  have hi2 := Lib.hid (own_in hp2)
  have l5_10 : w.heap.size < w5.heap.size := by omega
  go_wp2_with fail
  obtain ⟨w6, ew6⟩ : ∃ q : World, q = w5.alloc (.cells #[.int .i64 a0, .slice S2 n1 k2] 36) := ⟨_, rfl⟩
  rw [← ew6]
  have hb6 : Below w5.heap.size w5 w6 := by rw [ew6]; exact (Below.refl _ _).alloc (Nat.le_refl _) _
  have c12 : w6.cell? ⟨w5.heap.size, 0, none⟩ = some (.int .i64 a0) := by rw [ew6]; (first | (simp; done) | (simp (disch := (first | (simp; done) | (simp; omega))) [World.cell?_alloc_at]; done) | (simp (disch := (first | (simp; done) | (simp; omega))) [World.cell?_alloc_past]; done) | (simp (disch := (first | (simp; done) | (simp; omega))) [World.cell?_alloc_at, World.cell?_alloc_past]; done) | (simp (disch := (first | (simp; done) | (simp; omega))) [World.frozen?_alloc_at]; done) | (simp (disch := (first | (simp; done) | (simp; omega))) [World.frozen?_alloc_past]; done) | (simp (disch := (first | (simp; done) | (simp; omega))) [World.frozen?_alloc_at, World.frozen?_alloc_past]; done))
  have c13 : w6.cell? ⟨w5.heap.size, 1, none⟩ = some (.slice S2 n1 k2) := by rw [ew6]; (first | (simp; done) | (simp (disch := (first | (simp; done) | (simp; omega))) [World.cell?_alloc_at]; done) | (simp (disch := (first | (simp; done) | (simp; omega))) [World.cell?_alloc_past]; done) | (simp (disch := (first | (simp; done) | (simp; omega))) [World.cell?_alloc_at, World.cell?_alloc_past]; done) | (simp (disch := (first | (simp; done) | (simp; omega))) [World.frozen?_alloc_at]; done) | (simp (disch := (first | (simp; done) | (simp; omega))) [World.frozen?_alloc_past]; done) | (simp (disch := (first | (simp; done) | (simp; omega))) [World.frozen?_alloc_at, World.frozen?_alloc_past]; done))
  have yw6 : w6.heap.size = w5.heap.size + 1 := by rw [ew6]; simp
  clear ew6
  have hp1 := own_below hp1 hb6 (Nat.le_refl _)
  have hp2 := own_below hp2 hb6 (Nat.le_refl _)
  have c14 := (hb6.cell (p := ⟨w.heap.size, 0, none⟩) (by simp only []; omega)).trans c9
  clear c9
  have c15 := (hb6.cell (p := ⟨w.heap.size, 1, none⟩) (by simp only []; omega)).trans c10
  clear c10
  have Bw6 : Below w.heap.size w w6 := Bw5.trans (hb6.mono Bw5.size)
  have zw6 := hb6.size
  go_wp2_with fail
  refine (impl_ParityText_c w6 a0 S2 n1 k2 x1 hl1 hn1 (sl_of_own hp2) (ht.below Bw6 (Nat.le_refl _))).mono ?_
  rintro e w7 ⟨rfl, hb7⟩
  have hp1 := own_below hp1 hb7 (Nat.le_refl _)
  have hp2 := own_below hp2 hb7 (Nat.le_refl _)
  have c16 := (hb7.cell (p := ⟨w.heap.size, 0, none⟩) (by simp only []; omega)).trans c14
  clear c14
  have c17 := (hb7.cell (p := ⟨w.heap.size, 1, none⟩) (by simp only []; omega)).trans c15
  clear c15
  have c18 := (hb7.cell (p := ⟨w5.heap.size, 0, none⟩) (by simp only []; omega)).trans c12
  clear c12
  have c19 := (hb7.cell (p := ⟨w5.heap.size, 1, none⟩) (by simp only []; omega)).trans c13
  clear c13
  have Bw7 : Below w.heap.size w w7 := Bw6.trans (hb7.mono Bw6.size)
  have zw7 := hb7.size
  go_wp2_with fail
  go_region_held3 (fun w' => w'.cell? ⟨w5.heap.size, 0, none⟩ = some (.int .i64 a0) ∧ w'.cell? ⟨w5.heap.size, 1, none⟩ = some (.slice S2 n1 k2) ∧ w'.cell? ⟨w.heap.size, 0, none⟩ = some (.int .i64 a0) ∧ w'.cell? ⟨w.heap.size, 1, none⟩ = some (.slice A1 n1 cap1))
    (first | exact ⟨c26, c27, c24, c25⟩ | exact ⟨c22, c23, c20, c21⟩ | exact ⟨c18, c19, c16, c17⟩)
    (first
      | (go_at_call 16; refine (eqParity_t w8 a0 S2 S3 n1 k2 k3 x1 hl1 (Nat.le_trans hn1 (by decide)) (sl_of_own hp2) (sl_of_own hp3)).mono ?_; rintro e w9 ⟨rfl, hb9⟩; have hp1 := own_below hp1 hb9 (Nat.le_refl _); have hp2 := own_below hp2 hb9 (Nat.le_refl _); have hp3 := own_below hp3 hb9 (Nat.le_refl _); have c24 := (hb9.cell (p := ⟨w.heap.size, 0, none⟩) (by simp only []; omega)).trans c20; have c25 := (hb9.cell (p := ⟨w.heap.size, 1, none⟩) (by simp only []; omega)).trans c21; have c26 := (hb9.cell (p := ⟨w5.heap.size, 0, none⟩) (by simp only []; omega)).trans c22; have c27 := (hb9.cell (p := ⟨w5.heap.size, 1, none⟩) (by simp only []; omega)).trans c23; have Bw9 : Below w.heap.size w w9 := Bw8.trans (hb9.mono Bw8.size); have zw9 := hb9.size)
      | (go_at_call 14; refine (toParity_c w7.drew a0 A1 n1 cap1 x1 hl1 hn1 (((hx1).below Bw7).more Bw7.size)).mono ?_; rintro e w8 ⟨v1, rfl, ho8_1, hb8⟩; have hb8 := below_undrew hb8; have zd8 : w7.drew.heap.size = w7.heap.size := rfl; have hp1 := own_below hp1 hb8 (Nat.le_refl _); have hp2 := own_below hp2 hb8 (Nat.le_refl _); have c20 := (hb8.cell (p := ⟨w.heap.size, 0, none⟩) (by simp only []; omega)).trans c16; have c21 := (hb8.cell (p := ⟨w.heap.size, 1, none⟩) (by simp only []; omega)).trans c17; have c22 := (hb8.cell (p := ⟨w5.heap.size, 0, none⟩) (by simp only []; omega)).trans c18; have c23 := (hb8.cell (p := ⟨w5.heap.size, 1, none⟩) (by simp only []; omega)).trans c19; have Bw8 : Below w.heap.size w w8 := Bw7.trans (hb8.mono Bw7.size); have zw8 := hb8.size; obtain ⟨S3, k3, rfl, hp3⟩ := ho8_1.opn; rw [hl1] at hp3 ⊢; clear ho8_1; have hi3 := Lib.hid (own_in hp3)))
  go_wp2
  go_ret
  exact ⟨rfl, Bw9⟩

end Go.Proofs.YthccklkonfappaaDoor
