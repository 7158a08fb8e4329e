/-
  FnExactStoreSaved returns true for every input, and leaves its arguments as they were.
  Conditions: none beyond the given statement's own.
-/
import Derived.Test.YtmkjlhobnlgpjaaH
import Derived.Deep.RegionHeld3
import Derived.Test.YtmkjlhobnlgpjaaSR
namespace Go.Proofs.Ytmkjlhobnlgpjaa
open Go.RowKit

set_option maxRecDepth 100000 in
set_option maxHeartbeats 4000000 in
theorem law_StoreSaved (w : World) (a0 : ByteArray) (A1 : Option Addr) (n1 cap1 : Nat) (x1 : List Bool) (A2 : Option Addr) (n2 cap2 : Nat) (x2 : List Nat) (hw0 : a0.size ≤ maxLen) (hl1 : x1.length = n1) (hm1 : n1 ≤ maxLen) (hx1 : Sl w w.heap.size A1 (x1.map Value.bool)) (hl2 : x2.length = n2) (hm2 : n2 ≤ maxLen) (hx2 : Sl w w.heap.size A2 (x2.map (Value.float .f32))) (hf2 : ∀ x ∈ x2, x < 4294967296) :
    Calls Try.prog 4 #[.agg #[.string a0, .slice A1 n1 cap1, .slice A2 n2 cap2]] w fun e w' => e = .returned (.bool true) ∧ Below w.heap.size w w' := by
  unfold maxLen at hw0
  unfold maxLen at hm1
  unfold maxLen at hm2
  have hq : ∀ b : Bool, (b == b) = true := fun b => by simp
  go_enter Try.func4, Try.ntmps4
  go_wp2_with fail
  obtain ⟨w1, ew1⟩ : ∃ q : World, q = (w.alloc (.cells #[.string a0, .slice A1 n1 cap1, .slice A2 n2 cap2] 31)) := ⟨_, rfl⟩
  rw [← ew1]
  have Bw1 : Below w.heap.size w w1 := by rw [ew1]; exact ((Below.refl _ _).alloc (Nat.le_refl _) _)
  have zw1 : w1.heap.size = w.heap.size + 1 := by rw [ew1]; simp
  have c1 : w1.cell? ⟨w.heap.size, 0, none⟩ = some (.string a0) := by rw [ew1]; (first | (simp; done) | (simp (disch := (first | (simp; done) | (simp; omega))) [World.cell?_alloc_at]; done) | (simp (disch := (first | (simp; done) | (simp; omega))) [World.cell?_alloc_past]; done) | (simp (disch := (first | (simp; done) | (simp; omega))) [World.cell?_alloc_at, World.cell?_alloc_past]; done) | (simp (disch := (first | (simp; done) | (simp; omega))) [World.frozen?_alloc_at]; done) | (simp (disch := (first | (simp; done) | (simp; omega))) [World.frozen?_alloc_past]; done) | (simp (disch := (first | (simp; done) | (simp; omega))) [World.frozen?_alloc_at, World.frozen?_alloc_past]; done))
  have c2 : w1.cell? ⟨w.heap.size, 1, none⟩ = some (.slice A1 n1 cap1) := by rw [ew1]; (first | (simp; done) | (simp (disch := (first | (simp; done) | (simp; omega))) [World.cell?_alloc_at]; done) | (simp (disch := (first | (simp; done) | (simp; omega))) [World.cell?_alloc_past]; done) | (simp (disch := (first | (simp; done) | (simp; omega))) [World.cell?_alloc_at, World.cell?_alloc_past]; done) | (simp (disch := (first | (simp; done) | (simp; omega))) [World.frozen?_alloc_at]; done) | (simp (disch := (first | (simp; done) | (simp; omega))) [World.frozen?_alloc_past]; done) | (simp (disch := (first | (simp; done) | (simp; omega))) [World.frozen?_alloc_at, World.frozen?_alloc_past]; done))
  have c3 : w1.cell? ⟨w.heap.size, 2, none⟩ = some (.slice A2 n2 cap2) := by rw [ew1]; (first | (simp; done) | (simp (disch := (first | (simp; done) | (simp; omega))) [World.cell?_alloc_at]; done) | (simp (disch := (first | (simp; done) | (simp; omega))) [World.cell?_alloc_past]; done) | (simp (disch := (first | (simp; done) | (simp; omega))) [World.cell?_alloc_at, World.cell?_alloc_past]; done) | (simp (disch := (first | (simp; done) | (simp; omega))) [World.frozen?_alloc_at]; done) | (simp (disch := (first | (simp; done) | (simp; omega))) [World.frozen?_alloc_past]; done) | (simp (disch := (first | (simp; done) | (simp; omega))) [World.frozen?_alloc_at, World.frozen?_alloc_past]; done))
  clear ew1
  go_wp2_with fail
  refine (szSaved_c w1 a0 A1 n1 cap1 A2 n2 cap2 1048576 (by omega) (by omega) (by omega) (by omega) (by omega)).mono ?_
  rintro e w2 ⟨q2, rfl, sq2, hb2⟩
  have c4 := (hb2.cell (p := ⟨w.heap.size, 0, none⟩) (by simp only []; omega)).trans c1
  clear c1
  have c5 := (hb2.cell (p := ⟨w.heap.size, 1, none⟩) (by simp only []; omega)).trans c2
  clear c2
  have c6 := (hb2.cell (p := ⟨w.heap.size, 2, none⟩) (by simp only []; omega)).trans c3
  clear c3
  have Bw2 : Below w.heap.size w w2 := Bw1.trans (hb2.mono Bw1.size)
  have zw2 := hb2.size
  rcases sq2 with rfl | ⟨sq2, sq21, hsa0, hn1, hn2⟩
  · go_wp2
    go_ret
    exact ⟨rfl, Bw2⟩
  go_wp2_with fail
  refine (toSaved_c w2 a0 A1 n1 cap1 x1 hl1 hn1 (((hx1).below Bw2).more Bw2.size) A2 n2 cap2 x2 hl2 hn2 (((hx2).below Bw2).more Bw2.size)).mono ?_
  rintro e w3 ⟨v1, v2, rfl, ho3_1, ho3_2, hb3⟩
  have c7 := (hb3.cell (p := ⟨w.heap.size, 0, none⟩) (by simp only []; omega)).trans c4
  clear c4
  have c8 := (hb3.cell (p := ⟨w.heap.size, 1, none⟩) (by simp only []; omega)).trans c5
  clear c5
  have c9 := (hb3.cell (p := ⟨w.heap.size, 2, none⟩) (by simp only []; omega)).trans c6
  clear c6
  have Bw3 : Below w.heap.size w w3 := Bw2.trans (hb3.mono Bw2.size)
  have zw3 := hb3.size
  obtain ⟨S1, k1, rfl, hp1⟩ := ho3_1.opn
  rw [hl1] at hp1 ⊢
  clear ho3_1
  have hi1 := Lib.hid (own_in hp1)
  obtain ⟨S2, k2, rfl, hp2⟩ := ho3_2.opn
  rw [hl2] at hp2 ⊢
  clear ho3_2
  have hi2 := Lib.hid (own_in hp2)
  go_wp2_with fail
  refine (spec_StoreSaved_c w3 a0 hsa0 S1 n1 k1 x1 hl1 hn1 (sl_of_own hp1) (rowA_of hp1) S2 n2 k2 x2 hl2 hn2 (sl_of_own hp2) hf2).mono ?_
  rintro e w4 ⟨rfl, hb4⟩
  have hp1 := own_below hp1 hb4 (Nat.le_refl _)
  have hp2 := own_below hp2 hb4 (Nat.le_refl _)
  have c10 := (hb4.cell (p := ⟨w.heap.size, 0, none⟩) (by simp only []; omega)).trans c7
  clear c7
  have c11 := (hb4.cell (p := ⟨w.heap.size, 1, none⟩) (by simp only []; omega)).trans c8
  clear c8
  have c12 := (hb4.cell (p := ⟨w.heap.size, 2, none⟩) (by simp only []; omega)).trans c9
  clear c9
  have Bw4 : Below w.heap.size w w4 := Bw3.trans (hb4.mono Bw3.size)
  have zw4 := hb4.size
  go_wp2_with fail
  refine (toSaved_c w4 a0 A1 n1 cap1 x1 hl1 hn1 (((hx1).below Bw4).more Bw4.size) A2 n2 cap2 x2 hl2 hn2 (((hx2).below Bw4).more Bw4.size)).mono ?_
  rintro e w5 ⟨v1, v2, rfl, ho5_1, ho5_2, hb5⟩
  have hp1 := own_below hp1 hb5 (Nat.le_refl _)
  have hp2 := own_below hp2 hb5 (Nat.le_refl _)
  have c13 := (hb5.cell (p := ⟨w.heap.size, 0, none⟩) (by simp only []; omega)).trans c10
  clear c10
  have c14 := (hb5.cell (p := ⟨w.heap.size, 1, none⟩) (by simp only []; omega)).trans c11
  clear c11
  have c15 := (hb5.cell (p := ⟨w.heap.size, 2, none⟩) (by simp only []; omega)).trans c12
  clear c12
  have Bw5 : Below w.heap.size w w5 := Bw4.trans (hb5.mono Bw4.size)
  have zw5 := hb5.size
  obtain ⟨S3, k3, rfl, hp3⟩ := ho5_1.opn
  rw [hl1] at hp3 ⊢
  clear ho5_1
  have hi3 := Lib.hid (own_in hp3)
  obtain ⟨S4, k4, rfl, hp4⟩ := ho5_2.opn
  rw [hl2] at hp4 ⊢
  clear ho5_2
  have hi4 := Lib.hid (own_in hp4)
  have l5_15 : w.heap.size < w5.heap.size := by omega
  go_wp2_with fail
  obtain ⟨w6, ew6⟩ : ∃ q : World, q = w5.alloc (.cells #[.string a0, .slice S3 n1 k3, .slice S4 n2 k4] 35) := ⟨_, rfl⟩
  rw [← ew6]
  have hb6 : Below w5.heap.size w5 w6 := by rw [ew6]; exact (Below.refl _ _).alloc (Nat.le_refl _) _
  have c17 : w6.cell? ⟨w5.heap.size, 0, none⟩ = some (.string a0) := by rw [ew6]; (first | (simp; done) | (simp (disch := (first | (simp; done) | (simp; omega))) [World.cell?_alloc_at]; done) | (simp (disch := (first | (simp; done) | (simp; omega))) [World.cell?_alloc_past]; done) | (simp (disch := (first | (simp; done) | (simp; omega))) [World.cell?_alloc_at, World.cell?_alloc_past]; done) | (simp (disch := (first | (simp; done) | (simp; omega))) [World.frozen?_alloc_at]; done) | (simp (disch := (first | (simp; done) | (simp; omega))) [World.frozen?_alloc_past]; done) | (simp (disch := (first | (simp; done) | (simp; omega))) [World.frozen?_alloc_at, World.frozen?_alloc_past]; done))
  have c18 : w6.cell? ⟨w5.heap.size, 1, none⟩ = some (.slice S3 n1 k3) := by rw [ew6]; (first | (simp; done) | (simp (disch := (first | (simp; done) | (simp; omega))) [World.cell?_alloc_at]; done) | (simp (disch := (first | (simp; done) | (simp; omega))) [World.cell?_alloc_past]; done) | (simp (disch := (first | (simp; done) | (simp; omega))) [World.cell?_alloc_at, World.cell?_alloc_past]; done) | (simp (disch := (first | (simp; done) | (simp; omega))) [World.frozen?_alloc_at]; done) | (simp (disch := (first | (simp; done) | (simp; omega))) [World.frozen?_alloc_past]; done) | (simp (disch := (first | (simp; done) | (simp; omega))) [World.frozen?_alloc_at, World.frozen?_alloc_past]; done))
  have c19 : w6.cell? ⟨w5.heap.size, 2, none⟩ = some (.slice S4 n2 k4) := by rw [ew6]; (first | (simp; done) | (simp (disch := (first | (simp; done) | (simp; omega))) [World.cell?_alloc_at]; done) | (simp (disch := (first | (simp; done) | (simp; omega))) [World.cell?_alloc_past]; done) | (simp (disch := (first | (simp; done) | (simp; omega))) [World.cell?_alloc_at, World.cell?_alloc_past]; done) | (simp (disch := (first | (simp; done) | (simp; omega))) [World.frozen?_alloc_at]; done) | (simp (disch := (first | (simp; done) | (simp; omega))) [World.frozen?_alloc_past]; done) | (simp (disch := (first | (simp; done) | (simp; omega))) [World.frozen?_alloc_at, World.frozen?_alloc_past]; done))
  have yw6 : w6.heap.size = w5.heap.size + 1 := by rw [ew6]; simp
  clear ew6
  have hp1 := own_below hp1 hb6 (Nat.le_refl _)
  have hp2 := own_below hp2 hb6 (Nat.le_refl _)
  have hp3 := own_below hp3 hb6 (Nat.le_refl _)
  have hp4 := own_below hp4 hb6 (Nat.le_refl _)
  have c20 := (hb6.cell (p := ⟨w.heap.size, 0, none⟩) (by simp only []; omega)).trans c13
  clear c13
  have c21 := (hb6.cell (p := ⟨w.heap.size, 1, none⟩) (by simp only []; omega)).trans c14
  clear c14
  have c22 := (hb6.cell (p := ⟨w.heap.size, 2, none⟩) (by simp only []; omega)).trans c15
  clear c15
  have Bw6 : Below w.heap.size w w6 := Bw5.trans (hb6.mono Bw5.size)
  have zw6 := hb6.size
  go_wp2_with fail
  refine (impl_StoreSaved_c w6 a0 hsa0 S3 n1 k3 x1 hl1 hn1 (sl_of_own hp3) (rowA_of hp3) S4 n2 k4 x2 hl2 hn2 (sl_of_own hp4) hf2).mono ?_
  rintro e w7 ⟨rfl, hb7⟩
  have hp1 := own_below hp1 hb7 (Nat.le_refl _)
  have hp2 := own_below hp2 hb7 (Nat.le_refl _)
  have hp3 := own_below hp3 hb7 (Nat.le_refl _)
  have hp4 := own_below hp4 hb7 (Nat.le_refl _)
  have c23 := (hb7.cell (p := ⟨w.heap.size, 0, none⟩) (by simp only []; omega)).trans c20
  clear c20
  have c24 := (hb7.cell (p := ⟨w.heap.size, 1, none⟩) (by simp only []; omega)).trans c21
  clear c21
  have c25 := (hb7.cell (p := ⟨w.heap.size, 2, none⟩) (by simp only []; omega)).trans c22
  clear c22
  have c26 := (hb7.cell (p := ⟨w5.heap.size, 0, none⟩) (by simp only []; omega)).trans c17
  clear c17
  have c27 := (hb7.cell (p := ⟨w5.heap.size, 1, none⟩) (by simp only []; omega)).trans c18
  clear c18
  have c28 := (hb7.cell (p := ⟨w5.heap.size, 2, none⟩) (by simp only []; omega)).trans c19
  clear c19
  have Bw7 : Below w.heap.size w w7 := Bw6.trans (hb7.mono Bw6.size)
  have zw7 := hb7.size
  go_wp2_with fail
  go_region_held3 (fun w' => w'.cell? ⟨w5.heap.size, 0, none⟩ = some (.string a0) ∧ w'.cell? ⟨w5.heap.size, 1, none⟩ = some (.slice S3 n1 k3) ∧ w'.cell? ⟨w5.heap.size, 2, none⟩ = some (.slice S4 n2 k4) ∧ w'.cell? ⟨w.heap.size, 0, none⟩ = some (.string a0) ∧ w'.cell? ⟨w.heap.size, 1, none⟩ = some (.slice A1 n1 cap1) ∧ w'.cell? ⟨w.heap.size, 2, none⟩ = some (.slice A2 n2 cap2))
    (first | exact ⟨c38, c39, c40, c35, c36, c37⟩ | exact ⟨c32, c33, c34, c29, c30, c31⟩ | exact ⟨c26, c27, c28, c23, c24, c25⟩)
    (first
      | (go_at_call 18; refine (eqSaved_t w8 a0 S3 S5 n1 k3 k5 x1 hl1 (Nat.le_trans hn1 (by decide)) (sl_of_own hp3) (sl_of_own hp5) S4 S6 n2 k4 k6 x2 hl2 (Nat.le_trans hn2 (by decide)) (sl_of_own hp4) (sl_of_own hp6)).mono ?_; rintro e w9 ⟨rfl, hb9⟩; have hp1 := own_below hp1 hb9 (Nat.le_refl _); have hp2 := own_below hp2 hb9 (Nat.le_refl _); have hp3 := own_below hp3 hb9 (Nat.le_refl _); have hp4 := own_below hp4 hb9 (Nat.le_refl _); have hp5 := own_below hp5 hb9 (Nat.le_refl _); have hp6 := own_below hp6 hb9 (Nat.le_refl _); have c35 := (hb9.cell (p := ⟨w.heap.size, 0, none⟩) (by simp only []; omega)).trans c29; have c36 := (hb9.cell (p := ⟨w.heap.size, 1, none⟩) (by simp only []; omega)).trans c30; have c37 := (hb9.cell (p := ⟨w.heap.size, 2, none⟩) (by simp only []; omega)).trans c31; have c38 := (hb9.cell (p := ⟨w5.heap.size, 0, none⟩) (by simp only []; omega)).trans c32; have c39 := (hb9.cell (p := ⟨w5.heap.size, 1, none⟩) (by simp only []; omega)).trans c33; have c40 := (hb9.cell (p := ⟨w5.heap.size, 2, none⟩) (by simp only []; omega)).trans c34; have Bw9 : Below w.heap.size w w9 := Bw8.trans (hb9.mono Bw8.size); have zw9 := hb9.size)
      | (go_at_call 16; refine (toSaved_c w7.drew a0 A1 n1 cap1 x1 hl1 hn1 (((hx1).below Bw7).more Bw7.size) A2 n2 cap2 x2 hl2 hn2 (((hx2).below Bw7).more Bw7.size)).mono ?_; rintro e w8 ⟨v1, v2, rfl, ho8_1, ho8_2, hb8⟩; have hb8 := below_undrew hb8; have zd8 : w7.drew.heap.size = w7.heap.size := rfl; have hp1 := own_below hp1 hb8 (Nat.le_refl _); have hp2 := own_below hp2 hb8 (Nat.le_refl _); have hp3 := own_below hp3 hb8 (Nat.le_refl _); have hp4 := own_below hp4 hb8 (Nat.le_refl _); have c29 := (hb8.cell (p := ⟨w.heap.size, 0, none⟩) (by simp only []; omega)).trans c23; have c30 := (hb8.cell (p := ⟨w.heap.size, 1, none⟩) (by simp only []; omega)).trans c24; have c31 := (hb8.cell (p := ⟨w.heap.size, 2, none⟩) (by simp only []; omega)).trans c25; have c32 := (hb8.cell (p := ⟨w5.heap.size, 0, none⟩) (by simp only []; omega)).trans c26; have c33 := (hb8.cell (p := ⟨w5.heap.size, 1, none⟩) (by simp only []; omega)).trans c27; have c34 := (hb8.cell (p := ⟨w5.heap.size, 2, none⟩) (by simp only []; omega)).trans c28; have Bw8 : Below w.heap.size w w8 := Bw7.trans (hb8.mono Bw7.size); have zw8 := hb8.size; obtain ⟨S5, k5, rfl, hp5⟩ := ho8_1.opn; rw [hl1] at hp5 ⊢; clear ho8_1; have hi5 := Lib.hid (own_in hp5); obtain ⟨S6, k6, rfl, hp6⟩ := ho8_2.opn; rw [hl2] at hp6 ⊢; clear ho8_2; have hi6 := Lib.hid (own_in hp6)))
  go_wp2
  go_ret
  exact ⟨rfl, Bw9⟩

end Go.Proofs.Ytmkjlhobnlgpjaa
