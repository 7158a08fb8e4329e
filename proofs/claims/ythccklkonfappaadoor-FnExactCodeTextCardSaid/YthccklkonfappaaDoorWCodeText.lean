/-
  FnExactCodeText returns true for every input, and leaves its arguments as they were.
  Conditions: none beyond the given statement's own.
-/
import Derived.Test.YthccklkonfappaaDoorH
import Derived.Deep.RegionHeld3
import Derived.Test.YthccklkonfappaaDoorDM
import Derived.Test.YthccklkonfappaaDoorSD
namespace Go.Proofs.YthccklkonfappaaDoor
open Go.RowKit

set_option maxRecDepth 100000 in
set_option maxHeartbeats 4000000 in
theorem law_CodeText (w : World) (A0 : Option Addr) (n0 cap0 : Nat) (x0 : List Int) (hl0 : x0.length = n0) (hm0 : n0 ≤ maxLen) (hx0 : Sl w w.heap.size A0 (x0.map (Value.int .i64))) (ht : Tab w) :
    Calls Tryd.prog 3 #[.agg #[.slice A0 n0 cap0]] w fun e w' => e = .returned (.bool true) ∧ Below w.heap.size w w' := by
  unfold maxLen at hm0
  have hq : ∀ b : Bool, (b == b) = true := fun b => by simp
  go_enter Tryd.func3, Tryd.ntmps3
  go_wp2_with fail
  obtain ⟨w1, ew1⟩ : ∃ q : World, q = (w.alloc (.cells #[.slice A0 n0 cap0] 24)) := ⟨_, rfl⟩
  rw [← ew1]
  have Bw1 : Below w.heap.size w w1 := by rw [ew1]; exact ((Below.refl _ _).alloc (Nat.le_refl _) _)
  have zw1 : w1.heap.size = w.heap.size + 1 := by rw [ew1]; simp
  have c1 : w1.cell? ⟨w.heap.size, 0, none⟩ = some (.slice A0 n0 cap0) := by rw [ew1]; (first | (simp; done) | (simp (disch := (first | (simp; done) | (simp; omega))) [World.cell?_alloc_at]; done) | (simp (disch := (first | (simp; done) | (simp; omega))) [World.cell?_alloc_past]; done) | (simp (disch := (first | (simp; done) | (simp; omega))) [World.cell?_alloc_at, World.cell?_alloc_past]; done) | (simp (disch := (first | (simp; done) | (simp; omega))) [World.frozen?_alloc_at]; done) | (simp (disch := (first | (simp; done) | (simp; omega))) [World.frozen?_alloc_past]; done) | (simp (disch := (first | (simp; done) | (simp; omega))) [World.frozen?_alloc_at, World.frozen?_alloc_past]; done))
  clear ew1
  go_wp2_with fail
  refine (szCode_c w1 A0 n0 cap0 1048576 (by omega) (by omega) (by omega)).mono ?_
  rintro e w2 ⟨rfl, hb2⟩
  have c2 := (hb2.cell (p := ⟨w.heap.size, 0, none⟩) (by simp only []; omega)).trans c1
  clear c1
  have Bw2 : Below w.heap.size w w2 := Bw1.trans (hb2.mono Bw1.size)
  have zw2 := hb2.size
  have sq2 := szr_bd (left := 1048576) (by omega) (by omega) n0
  obtain ⟨q2, hq2⟩ : ∃ q, szr 1048576 n0 = q := ⟨_, rfl⟩
  rw [hq2] at sq2 ⊢
  clear hq2
  rcases sq2 with ⟨sq2, rfl⟩ | ⟨sq2, sq21, sq22⟩
  · go_wp2
    go_ret
    exact ⟨rfl, Bw2⟩
  have hn0 : n0 ≤ 1048576 := by omega
  go_wp2_with fail
  refine (toCode_c w2 A0 n0 cap0 x0 hl0 hn0 (((hx0).below Bw2).more Bw2.size)).mono ?_
  rintro e w3 ⟨v0, rfl, ho3_0, hb3⟩
  have c3 := (hb3.cell (p := ⟨w.heap.size, 0, none⟩) (by simp only []; omega)).trans c2
  clear c2
  have Bw3 : Below w.heap.size w w3 := Bw2.trans (hb3.mono Bw2.size)
  have zw3 := hb3.size
  obtain ⟨S1, k1, rfl, hp1⟩ := ho3_0.opn
  rw [hl0] at hp1 ⊢
  clear ho3_0
  have hi1 := Lib.hid (own_in hp1)
  go_wp2_with fail
  refine (spec_CodeText_c w3 S1 n0 k1 x0 hl0 hn0 (sl_of_own hp1)).mono ?_
  rintro e w4 ⟨rfl, hb4⟩
  have hp1 := own_below hp1 hb4 (Nat.le_refl _)
  have c4 := (hb4.cell (p := ⟨w.heap.size, 0, none⟩) (by simp only []; omega)).trans c3
  clear c3
  have Bw4 : Below w.heap.size w w4 := Bw3.trans (hb4.mono Bw3.size)
  have zw4 := hb4.size
  go_wp2_with fail
  refine (toCode_c w4 A0 n0 cap0 x0 hl0 hn0 (((hx0).below Bw4).more Bw4.size)).mono ?_
  rintro e w5 ⟨v0, rfl, ho5_0, hb5⟩
  have hp1 := own_below hp1 hb5 (Nat.le_refl _)
  have c5 := (hb5.cell (p := ⟨w.heap.size, 0, none⟩) (by simp only []; omega)).trans c4
  clear c4
  have Bw5 : Below w.heap.size w w5 := Bw4.trans (hb5.mono Bw4.size)
  have zw5 := hb5.size
  obtain ⟨S2, k2, rfl, hp2⟩ := ho5_0.opn
  rw [hl0] at hp2 ⊢
  clear ho5_0
  have hi2 := Lib.hid (own_in hp2)
  have l5_5 : w.heap.size < w5.heap.size := by omega
  go_wp2_with fail
  obtain ⟨w6, ew6⟩ : ∃ q : World, q = w5.alloc (.cells #[.slice S2 n0 k2] 28) := ⟨_, rfl⟩
  rw [← ew6]
  have hb6 : Below w5.heap.size w5 w6 := by rw [ew6]; exact (Below.refl _ _).alloc (Nat.le_refl _) _
  have c7 : w6.cell? ⟨w5.heap.size, 0, none⟩ = some (.slice S2 n0 k2) := by rw [ew6]; (first | (simp; done) | (simp (disch := (first | (simp; done) | (simp; omega))) [World.cell?_alloc_at]; done) | (simp (disch := (first | (simp; done) | (simp; omega))) [World.cell?_alloc_past]; done) | (simp (disch := (first | (simp; done) | (simp; omega))) [World.cell?_alloc_at, World.cell?_alloc_past]; done) | (simp (disch := (first | (simp; done) | (simp; omega))) [World.frozen?_alloc_at]; done) | (simp (disch := (first | (simp; done) | (simp; omega))) [World.frozen?_alloc_past]; done) | (simp (disch := (first | (simp; done) | (simp; omega))) [World.frozen?_alloc_at, World.frozen?_alloc_past]; done))
  have yw6 : w6.heap.size = w5.heap.size + 1 := by rw [ew6]; simp
  clear ew6
  have hp1 := own_below hp1 hb6 (Nat.le_refl _)
  have hp2 := own_below hp2 hb6 (Nat.le_refl _)
  have c8 := (hb6.cell (p := ⟨w.heap.size, 0, none⟩) (by simp only []; omega)).trans c5
  clear c5
  have Bw6 : Below w.heap.size w w6 := Bw5.trans (hb6.mono Bw5.size)
  have zw6 := hb6.size
  go_wp2_with fail
  refine (impl_CodeText_c w6 S2 n0 k2 x0 hl0 hn0 (sl_of_own hp2) (ht.below Bw6 (Nat.le_refl _))).mono ?_
  rintro e w7 ⟨rfl, hb7⟩
  have hp1 := own_below hp1 hb7 (Nat.le_refl _)
  have hp2 := own_below hp2 hb7 (Nat.le_refl _)
  have c9 := (hb7.cell (p := ⟨w.heap.size, 0, none⟩) (by simp only []; omega)).trans c8
  clear c8
  have c10 := (hb7.cell (p := ⟨w5.heap.size, 0, none⟩) (by simp only []; omega)).trans c7
  clear c7
  have Bw7 : Below w.heap.size w w7 := Bw6.trans (hb7.mono Bw6.size)
  have zw7 := hb7.size
  go_wp2_with fail
  go_region_held3 (fun w' => w'.cell? ⟨w5.heap.size, 0, none⟩ = some (.slice S2 n0 k2) ∧ w'.cell? ⟨w.heap.size, 0, none⟩ = some (.slice A0 n0 cap0))
    (first | exact ⟨c14, c13⟩ | exact ⟨c12, c11⟩ | exact ⟨c10, c9⟩)
    (first
      | (go_at_call 11; refine (eqCode_t w8 S2 S3 n0 k2 k3 x0 hl0 (Nat.le_trans hn0 (by decide)) (sl_of_own hp2) (sl_of_own hp3)).mono ?_; rintro e w9 ⟨rfl, hb9⟩; have hp1 := own_below hp1 hb9 (Nat.le_refl _); have hp2 := own_below hp2 hb9 (Nat.le_refl _); have hp3 := own_below hp3 hb9 (Nat.le_refl _); have c13 := (hb9.cell (p := ⟨w.heap.size, 0, none⟩) (by simp only []; omega)).trans c11; have c14 := (hb9.cell (p := ⟨w5.heap.size, 0, none⟩) (by simp only []; omega)).trans c12; have Bw9 : Below w.heap.size w w9 := Bw8.trans (hb9.mono Bw8.size); have zw9 := hb9.size)
      | (go_at_call 9; refine (toCode_c w7.drew A0 n0 cap0 x0 hl0 hn0 (((hx0).below Bw7).more Bw7.size)).mono ?_; rintro e w8 ⟨v0, rfl, ho8_0, hb8⟩; have hb8 := below_undrew hb8; have zd8 : w7.drew.heap.size = w7.heap.size := rfl; have hp1 := own_below hp1 hb8 (Nat.le_refl _); have hp2 := own_below hp2 hb8 (Nat.le_refl _); have c11 := (hb8.cell (p := ⟨w.heap.size, 0, none⟩) (by simp only []; omega)).trans c9; have c12 := (hb8.cell (p := ⟨w5.heap.size, 0, none⟩) (by simp only []; omega)).trans c10; have Bw8 : Below w.heap.size w w8 := Bw7.trans (hb8.mono Bw7.size); have zw8 := hb8.size; obtain ⟨S3, k3, rfl, hp3⟩ := ho8_0.opn; rw [hl0] at hp3 ⊢; clear ho8_0; have hi3 := Lib.hid (own_in hp3)))
  go_wp2
  go_ret
  exact ⟨rfl, Bw9⟩

end Go.Proofs.YthccklkonfappaaDoor
