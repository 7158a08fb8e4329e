/-
  FnExactSameCoder returns true for every input, and leaves its arguments as they were.
  Conditions: none beyond the given statement's own.
-/
import Derived.Test.YtcghalcpbpfkmaaH
import Derived.Deep.RegionHeld3
import Derived.Test.YtcghalcpbpfkmaaSC
namespace Go.Proofs.Ytcghalcpbpfkmaa
open Go.RowKit

set_option maxRecDepth 100000 in
set_option maxHeartbeats 4000000 in
theorem law_SameCoder (w : World) (a0 : Int) (A1 : Option Addr) (n1 cap1 : Nat) (x1 : List Int) (a2 : Int) (A3 : Option Addr) (n3 cap3 : Nat) (x3 : List Int) (hl1 : x1.length = n1) (hm1 : n1 ≤ maxLen) (hx1 : Sl w w.heap.size A1 (x1.map (Value.int .i64))) (hl3 : x3.length = n3) (hm3 : n3 ≤ maxLen) (hx3 : Sl w w.heap.size A3 (x3.map (Value.int .i64))) :
    Calls Try.prog 4 #[.agg #[.int .i64 a0, .slice A1 n1 cap1], .agg #[.int .i64 a2, .slice A3 n3 cap3]] w fun e w' => e = .returned (.bool true) ∧ Below w.heap.size w w' := by
  unfold maxLen at hm1
  unfold maxLen at hm3
  have hq : ∀ b : Bool, (b == b) = true := fun b => by simp
  go_enter Try.func4, Try.ntmps4
  go_wp2_with fail
  obtain ⟨w1, ew1⟩ : ∃ q : World, q = ((w.alloc (.cells #[.int .i64 a0, .slice A1 n1 cap1] 28)).alloc (.cells #[.int .i64 a2, .slice A3 n3 cap3] 28)) := ⟨_, rfl⟩
  rw [← ew1]
  have Bw1 : Below w.heap.size w w1 := by rw [ew1]; exact (((Below.refl _ _).alloc (Nat.le_refl _) _).alloc (by simp <;> omega) _)
  have zw1 : w1.heap.size = w.heap.size + 2 := by rw [ew1]; simp
  have c1 : w1.cell? ⟨w.heap.size, 0, none⟩ = some (.int .i64 a0) := by rw [ew1]; (first | (simp; done) | (simp (disch := (first | (simp; done) | (simp; omega))) [World.cell?_alloc_at]; done) | (simp (disch := (first | (simp; done) | (simp; omega))) [World.cell?_alloc_past]; done) | (simp (disch := (first | (simp; done) | (simp; omega))) [World.cell?_alloc_at, World.cell?_alloc_past]; done) | (simp (disch := (first | (simp; done) | (simp; omega))) [World.frozen?_alloc_at]; done) | (simp (disch := (first | (simp; done) | (simp; omega))) [World.frozen?_alloc_past]; done) | (simp (disch := (first | (simp; done) | (simp; omega))) [World.frozen?_alloc_at, World.frozen?_alloc_past]; done))
  have c2 : w1.cell? ⟨w.heap.size, 1, none⟩ = some (.slice A1 n1 cap1) := by rw [ew1]; (first | (simp; done) | (simp (disch := (first | (simp; done) | (simp; omega))) [World.cell?_alloc_at]; done) | (simp (disch := (first | (simp; done) | (simp; omega))) [World.cell?_alloc_past]; done) | (simp (disch := (first | (simp; done) | (simp; omega))) [World.cell?_alloc_at, World.cell?_alloc_past]; done) | (simp (disch := (first | (simp; done) | (simp; omega))) [World.frozen?_alloc_at]; done) | (simp (disch := (first | (simp; done) | (simp; omega))) [World.frozen?_alloc_past]; done) | (simp (disch := (first | (simp; done) | (simp; omega))) [World.frozen?_alloc_at, World.frozen?_alloc_past]; done))
  have c3 : w1.cell? ⟨w.heap.size + 1, 0, none⟩ = some (.int .i64 a2) := by rw [ew1]; (first | (simp; done) | (simp (disch := (first | (simp; done) | (simp; omega))) [World.cell?_alloc_at]; done) | (simp (disch := (first | (simp; done) | (simp; omega))) [World.cell?_alloc_past]; done) | (simp (disch := (first | (simp; done) | (simp; omega))) [World.cell?_alloc_at, World.cell?_alloc_past]; done) | (simp (disch := (first | (simp; done) | (simp; omega))) [World.frozen?_alloc_at]; done) | (simp (disch := (first | (simp; done) | (simp; omega))) [World.frozen?_alloc_past]; done) | (simp (disch := (first | (simp; done) | (simp; omega))) [World.frozen?_alloc_at, World.frozen?_alloc_past]; done))
  have c4 : w1.cell? ⟨w.heap.size + 1, 1, none⟩ = some (.slice A3 n3 cap3) := by rw [ew1]; (first | (simp; done) | (simp (disch := (first | (simp; done) | (simp; omega))) [World.cell?_alloc_at]; done) | (simp (disch := (first | (simp; done) | (simp; omega))) [World.cell?_alloc_past]; done) | (simp (disch := (first | (simp; done) | (simp; omega))) [World.cell?_alloc_at, World.cell?_alloc_past]; done) | (simp (disch := (first | (simp; done) | (simp; omega))) [World.frozen?_alloc_at]; done) | (simp (disch := (first | (simp; done) | (simp; omega))) [World.frozen?_alloc_past]; done) | (simp (disch := (first | (simp; done) | (simp; omega))) [World.frozen?_alloc_at, World.frozen?_alloc_past]; done))
  clear ew1
  go_wp2_with fail
  refine (szCoder_c w1 a0 A1 n1 cap1 1048576 (by omega) (by omega) (by omega)).mono ?_
  rintro e w2 ⟨rfl, hb2⟩
  have c5 := (hb2.cell (p := ⟨w.heap.size, 0, none⟩) (by simp only []; omega)).trans c1
  clear c1
  have c6 := (hb2.cell (p := ⟨w.heap.size, 1, none⟩) (by simp only []; omega)).trans c2
  clear c2
  have c7 := (hb2.cell (p := ⟨w.heap.size + 1, 0, none⟩) (by simp only []; omega)).trans c3
  clear c3
  have c8 := (hb2.cell (p := ⟨w.heap.size + 1, 1, none⟩) (by simp only []; omega)).trans c4
  clear c4
  have Bw2 : Below w.heap.size w w2 := Bw1.trans (hb2.mono Bw1.size)
  have zw2 := hb2.size
  have sq2 := szr_bd (left := 1048576) (by omega) (by omega) n1
  obtain ⟨q2, hq2⟩ : ∃ q, szr 1048576 n1 = q := ⟨_, rfl⟩
  rw [hq2] at sq2 ⊢
  clear hq2
  rcases sq2 with ⟨sq2, rfl⟩ | ⟨sq2, sq21, sq22⟩
  · go_wp2
    go_ret
    exact ⟨rfl, Bw2⟩
  have hn1 : n1 ≤ 1048576 := by omega
  go_wp2_with fail
  refine (szCoder_c w2 a2 A3 n3 cap3 q2 (by omega) (by omega) (by omega)).mono ?_
  rintro e w3 ⟨rfl, hb3⟩
  have c9 := (hb3.cell (p := ⟨w.heap.size, 0, none⟩) (by simp only []; omega)).trans c5
  clear c5
  have c10 := (hb3.cell (p := ⟨w.heap.size, 1, none⟩) (by simp only []; omega)).trans c6
  clear c6
  have c11 := (hb3.cell (p := ⟨w.heap.size + 1, 0, none⟩) (by simp only []; omega)).trans c7
  clear c7
  have c12 := (hb3.cell (p := ⟨w.heap.size + 1, 1, none⟩) (by simp only []; omega)).trans c8
  clear c8
  have Bw3 : Below w.heap.size w w3 := Bw2.trans (hb3.mono Bw2.size)
  have zw3 := hb3.size
  have sq3 := szr_bd (left := q2) (by omega) (by omega) n3
  obtain ⟨q3, hq3⟩ : ∃ q, szr q2 n3 = q := ⟨_, rfl⟩
  rw [hq3] at sq3 ⊢
  clear hq3
  rcases sq3 with ⟨sq3, rfl⟩ | ⟨sq3, sq31, sq32⟩
  · go_wp2
    go_ret
    exact ⟨rfl, Bw3⟩
  have hn3 : n3 ≤ 1048576 := by omega
  go_wp2_with fail
  go_region_held3 (fun w' => w'.cell? ⟨w.heap.size, 0, none⟩ = some (.int .i64 a0) ∧ w'.cell? ⟨w.heap.size, 1, none⟩ = some (.slice A1 n1 cap1) ∧ w'.cell? ⟨w.heap.size + 1, 0, none⟩ = some (.int .i64 a2) ∧ w'.cell? ⟨w.heap.size + 1, 1, none⟩ = some (.slice A3 n3 cap3))
    (first | exact ⟨c21, c22, c23, c24⟩ | exact ⟨c17, c18, c19, c20⟩ | exact ⟨c13, c14, c15, c16⟩ | exact ⟨c9, c10, c11, c12⟩)
    (first
      | (go_at_call 20; refine (spec_SameCoder_c w5 a0 S1 n1 k1 x1 hl1 hn1 (sl_of_own hp1) a2 S2 n3 k2 x3 hl3 hn3 (sl_of_own hp2)).mono ?_; rintro e w6 ⟨rfl, hb6⟩; have hp1 := own_below hp1 hb6 (Nat.le_refl _); have hp2 := own_below hp2 hb6 (Nat.le_refl _); have c21 := (hb6.cell (p := ⟨w.heap.size, 0, none⟩) (by simp only []; omega)).trans c17; have c22 := (hb6.cell (p := ⟨w.heap.size, 1, none⟩) (by simp only []; omega)).trans c18; have c23 := (hb6.cell (p := ⟨w.heap.size + 1, 0, none⟩) (by simp only []; omega)).trans c19; have c24 := (hb6.cell (p := ⟨w.heap.size + 1, 1, none⟩) (by simp only []; omega)).trans c20; have Bw6 : Below w.heap.size w w6 := Bw5.trans (hb6.mono Bw5.size); have zw6 := hb6.size)
      | (go_at_call 21; refine (toCoder_c w4 a2 A3 n3 cap3 x3 hl3 hn3 (((hx3).below Bw4).more Bw4.size)).mono ?_; rintro e w5 ⟨v1, rfl, ho5_1, hb5⟩; have hp1 := own_below hp1 hb5 (Nat.le_refl _); have c17 := (hb5.cell (p := ⟨w.heap.size, 0, none⟩) (by simp only []; omega)).trans c13; have c18 := (hb5.cell (p := ⟨w.heap.size, 1, none⟩) (by simp only []; omega)).trans c14; have c19 := (hb5.cell (p := ⟨w.heap.size + 1, 0, none⟩) (by simp only []; omega)).trans c15; have c20 := (hb5.cell (p := ⟨w.heap.size + 1, 1, none⟩) (by simp only []; omega)).trans c16; have Bw5 : Below w.heap.size w w5 := Bw4.trans (hb5.mono Bw4.size); have zw5 := hb5.size; obtain ⟨S2, k2, rfl, hp2⟩ := ho5_1.opn; rw [hl3] at hp2 ⊢; clear ho5_1; have hi2 := Lib.hid (own_in hp2))
      | (go_at_call 21; refine (toCoder_c w3.drew a0 A1 n1 cap1 x1 hl1 hn1 (((hx1).below Bw3).more Bw3.size)).mono ?_; rintro e w4 ⟨v1, rfl, ho4_1, hb4⟩; have hb4 := below_undrew hb4; have c13 := (hb4.cell (p := ⟨w.heap.size, 0, none⟩) (by simp only []; omega)).trans c9; have c14 := (hb4.cell (p := ⟨w.heap.size, 1, none⟩) (by simp only []; omega)).trans c10; have c15 := (hb4.cell (p := ⟨w.heap.size + 1, 0, none⟩) (by simp only []; omega)).trans c11; have c16 := (hb4.cell (p := ⟨w.heap.size + 1, 1, none⟩) (by simp only []; omega)).trans c12; have Bw4 : Below w.heap.size w w4 := Bw3.trans (hb4.mono Bw3.size); have zw4 := hb4.size; obtain ⟨S1, k1, rfl, hp1⟩ := ho4_1.opn; rw [hl1] at hp1 ⊢; clear ho4_1; have hi1 := Lib.hid (own_in hp1)))
  go_wp2_with fail
  refine (toCoder_c w6 a0 A1 n1 cap1 x1 hl1 hn1 (((hx1).below Bw6).more Bw6.size)).mono ?_
  rintro e w7 ⟨v1, rfl, ho7_1, hb7⟩
  have hp1 := own_below hp1 hb7 (Nat.le_refl _)
  have hp2 := own_below hp2 hb7 (Nat.le_refl _)
  have c25 := (hb7.cell (p := ⟨w.heap.size, 0, none⟩) (by simp only []; omega)).trans c21
  clear c21
  have c26 := (hb7.cell (p := ⟨w.heap.size, 1, none⟩) (by simp only []; omega)).trans c22
  clear c22
  have c27 := (hb7.cell (p := ⟨w.heap.size + 1, 0, none⟩) (by simp only []; omega)).trans c23
  clear c23
  have c28 := (hb7.cell (p := ⟨w.heap.size + 1, 1, none⟩) (by simp only []; omega)).trans c24
  clear c24
  have Bw7 : Below w.heap.size w w7 := Bw6.trans (hb7.mono Bw6.size)
  have zw7 := hb7.size
  obtain ⟨S3, k3, rfl, hp3⟩ := ho7_1.opn
  rw [hl1] at hp3 ⊢
  clear ho7_1
  have hi3 := Lib.hid (own_in hp3)
  have l7_28 : w.heap.size < w7.heap.size := by omega
  have l7_29 : w.heap.size + 1 < w7.heap.size := by omega
  go_wp2_with fail
  obtain ⟨w8, ew8⟩ : ∃ q : World, q = w7.alloc (.cells #[.int .i64 a0, .slice S3 n1 k3] 31) := ⟨_, rfl⟩
  rw [← ew8]
  have hb8 : Below w7.heap.size w7 w8 := by rw [ew8]; exact (Below.refl _ _).alloc (Nat.le_refl _) _
  have c31 : w8.cell? ⟨w7.heap.size, 0, none⟩ = some (.int .i64 a0) := by rw [ew8]; (first | (simp; done) | (simp (disch := (first | (simp; done) | (simp; omega))) [World.cell?_alloc_at]; done) | (simp (disch := (first | (simp; done) | (simp; omega))) [World.cell?_alloc_past]; done) | (simp (disch := (first | (simp; done) | (simp; omega))) [World.cell?_alloc_at, World.cell?_alloc_past]; done) | (simp (disch := (first | (simp; done) | (simp; omega))) [World.frozen?_alloc_at]; done) | (simp (disch := (first | (simp; done) | (simp; omega))) [World.frozen?_alloc_past]; done) | (simp (disch := (first | (simp; done) | (simp; omega))) [World.frozen?_alloc_at, World.frozen?_alloc_past]; done))
  have c32 : w8.cell? ⟨w7.heap.size, 1, none⟩ = some (.slice S3 n1 k3) := by rw [ew8]; (first | (simp; done) | (simp (disch := (first | (simp; done) | (simp; omega))) [World.cell?_alloc_at]; done) | (simp (disch := (first | (simp; done) | (simp; omega))) [World.cell?_alloc_past]; done) | (simp (disch := (first | (simp; done) | (simp; omega))) [World.cell?_alloc_at, World.cell?_alloc_past]; done) | (simp (disch := (first | (simp; done) | (simp; omega))) [World.frozen?_alloc_at]; done) | (simp (disch := (first | (simp; done) | (simp; omega))) [World.frozen?_alloc_past]; done) | (simp (disch := (first | (simp; done) | (simp; omega))) [World.frozen?_alloc_at, World.frozen?_alloc_past]; done))
  have yw8 : w8.heap.size = w7.heap.size + 1 := by rw [ew8]; simp
  clear ew8
  have hp1 := own_below hp1 hb8 (Nat.le_refl _)
  have hp2 := own_below hp2 hb8 (Nat.le_refl _)
  have hp3 := own_below hp3 hb8 (Nat.le_refl _)
  have c33 := (hb8.cell (p := ⟨w.heap.size, 0, none⟩) (by simp only []; omega)).trans c25
  clear c25
  have c34 := (hb8.cell (p := ⟨w.heap.size, 1, none⟩) (by simp only []; omega)).trans c26
  clear c26
  have c35 := (hb8.cell (p := ⟨w.heap.size + 1, 0, none⟩) (by simp only []; omega)).trans c27
  clear c27
  have c36 := (hb8.cell (p := ⟨w.heap.size + 1, 1, none⟩) (by simp only []; omega)).trans c28
  clear c28
  have Bw8 : Below w.heap.size w w8 := Bw7.trans (hb8.mono Bw7.size)
  have zw8 := hb8.size
  go_wp2_with fail
  refine (toCoder_c w8 a2 A3 n3 cap3 x3 hl3 hn3 (((hx3).below Bw8).more Bw8.size)).mono ?_
  rintro e w9 ⟨v1, rfl, ho9_1, hb9⟩
  have hp1 := own_below hp1 hb9 (Nat.le_refl _)
  have hp2 := own_below hp2 hb9 (Nat.le_refl _)
  have hp3 := own_below hp3 hb9 (Nat.le_refl _)
  have c37 := (hb9.cell (p := ⟨w.heap.size, 0, none⟩) (by simp only []; omega)).trans c33
  clear c33
  have c38 := (hb9.cell (p := ⟨w.heap.size, 1, none⟩) (by simp only []; omega)).trans c34
  clear c34
  have c39 := (hb9.cell (p := ⟨w.heap.size + 1, 0, none⟩) (by simp only []; omega)).trans c35
  clear c35
  have c40 := (hb9.cell (p := ⟨w.heap.size + 1, 1, none⟩) (by simp only []; omega)).trans c36
  clear c36
  have c41 := (hb9.cell (p := ⟨w7.heap.size, 0, none⟩) (by simp only []; omega)).trans c31
  clear c31
  have c42 := (hb9.cell (p := ⟨w7.heap.size, 1, none⟩) (by simp only []; omega)).trans c32
  clear c32
  have Bw9 : Below w.heap.size w w9 := Bw8.trans (hb9.mono Bw8.size)
  have zw9 := hb9.size
  obtain ⟨S4, k4, rfl, hp4⟩ := ho9_1.opn
  rw [hl3] at hp4 ⊢
  clear ho9_1
  have hi4 := Lib.hid (own_in hp4)
  have l9_42 : w.heap.size < w9.heap.size := by omega
  have l9_43 : w.heap.size + 1 < w9.heap.size := by omega
  have l9_44 : w7.heap.size < w9.heap.size := by omega
  go_wp2_with fail
  obtain ⟨w10, ew10⟩ : ∃ q : World, q = w9.alloc (.cells #[.int .i64 a2, .slice S4 n3 k4] 31) := ⟨_, rfl⟩
  rw [← ew10]
  have hb10 : Below w9.heap.size w9 w10 := by rw [ew10]; exact (Below.refl _ _).alloc (Nat.le_refl _) _
  have c46 : w10.cell? ⟨w9.heap.size, 0, none⟩ = some (.int .i64 a2) := by rw [ew10]; (first | (simp; done) | (simp (disch := (first | (simp; done) | (simp; omega))) [World.cell?_alloc_at]; done) | (simp (disch := (first | (simp; done) | (simp; omega))) [World.cell?_alloc_past]; done) | (simp (disch := (first | (simp; done) | (simp; omega))) [World.cell?_alloc_at, World.cell?_alloc_past]; done) | (simp (disch := (first | (simp; done) | (simp; omega))) [World.frozen?_alloc_at]; done) | (simp (disch := (first | (simp; done) | (simp; omega))) [World.frozen?_alloc_past]; done) | (simp (disch := (first | (simp; done) | (simp; omega))) [World.frozen?_alloc_at, World.frozen?_alloc_past]; done))
  have c47 : w10.cell? ⟨w9.heap.size, 1, none⟩ = some (.slice S4 n3 k4) := by rw [ew10]; (first | (simp; done) | (simp (disch := (first | (simp; done) | (simp; omega))) [World.cell?_alloc_at]; done) | (simp (disch := (first | (simp; done) | (simp; omega))) [World.cell?_alloc_past]; done) | (simp (disch := (first | (simp; done) | (simp; omega))) [World.cell?_alloc_at, World.cell?_alloc_past]; done) | (simp (disch := (first | (simp; done) | (simp; omega))) [World.frozen?_alloc_at]; done) | (simp (disch := (first | (simp; done) | (simp; omega))) [World.frozen?_alloc_past]; done) | (simp (disch := (first | (simp; done) | (simp; omega))) [World.frozen?_alloc_at, World.frozen?_alloc_past]; done))
  have yw10 : w10.heap.size = w9.heap.size + 1 := by rw [ew10]; simp
  clear ew10
  have hp1 := own_below hp1 hb10 (Nat.le_refl _)
  have hp2 := own_below hp2 hb10 (Nat.le_refl _)
  have hp3 := own_below hp3 hb10 (Nat.le_refl _)
  have hp4 := own_below hp4 hb10 (Nat.le_refl _)
  have c48 := (hb10.cell (p := ⟨w.heap.size, 0, none⟩) (by simp only []; omega)).trans c37
  clear c37
  have c49 := (hb10.cell (p := ⟨w.heap.size, 1, none⟩) (by simp only []; omega)).trans c38
  clear c38
  have c50 := (hb10.cell (p := ⟨w.heap.size + 1, 0, none⟩) (by simp only []; omega)).trans c39
  clear c39
  have c51 := (hb10.cell (p := ⟨w.heap.size + 1, 1, none⟩) (by simp only []; omega)).trans c40
  clear c40
  have c52 := (hb10.cell (p := ⟨w7.heap.size, 0, none⟩) (by simp only []; omega)).trans c41
  clear c41
  have c53 := (hb10.cell (p := ⟨w7.heap.size, 1, none⟩) (by simp only []; omega)).trans c42
  clear c42
  have Bw10 : Below w.heap.size w w10 := Bw9.trans (hb10.mono Bw9.size)
  have zw10 := hb10.size
  go_wp2_with fail
  refine (impl_SameCoder_c w10 a0 S3 n1 k3 x1 hl1 hn1 (sl_of_own hp3) a2 S4 n3 k4 x3 hl3 hn3 (sl_of_own hp4)).mono ?_
  rintro e w11 ⟨rfl, hb11⟩
  have hp1 := own_below hp1 hb11 (Nat.le_refl _)
  have hp2 := own_below hp2 hb11 (Nat.le_refl _)
  have hp3 := own_below hp3 hb11 (Nat.le_refl _)
  have hp4 := own_below hp4 hb11 (Nat.le_refl _)
  have c54 := (hb11.cell (p := ⟨w.heap.size, 0, none⟩) (by simp only []; omega)).trans c48
  clear c48
  have c55 := (hb11.cell (p := ⟨w.heap.size, 1, none⟩) (by simp only []; omega)).trans c49
  clear c49
  have c56 := (hb11.cell (p := ⟨w.heap.size + 1, 0, none⟩) (by simp only []; omega)).trans c50
  clear c50
  have c57 := (hb11.cell (p := ⟨w.heap.size + 1, 1, none⟩) (by simp only []; omega)).trans c51
  clear c51
  have c58 := (hb11.cell (p := ⟨w7.heap.size, 0, none⟩) (by simp only []; omega)).trans c52
  clear c52
  have c59 := (hb11.cell (p := ⟨w7.heap.size, 1, none⟩) (by simp only []; omega)).trans c53
  clear c53
  have c60 := (hb11.cell (p := ⟨w9.heap.size, 0, none⟩) (by simp only []; omega)).trans c46
  clear c46
  have c61 := (hb11.cell (p := ⟨w9.heap.size, 1, none⟩) (by simp only []; omega)).trans c47
  clear c47
  have Bw11 : Below w.heap.size w w11 := Bw10.trans (hb11.mono Bw10.size)
  have zw11 := hb11.size
  go_wp2_with fail
  go_region_held3 (fun w' => w'.cell? ⟨w7.heap.size, 0, none⟩ = some (.int .i64 a0) ∧ w'.cell? ⟨w7.heap.size, 1, none⟩ = some (.slice S3 n1 k3) ∧ w'.cell? ⟨w.heap.size, 0, none⟩ = some (.int .i64 a0) ∧ w'.cell? ⟨w.heap.size, 1, none⟩ = some (.slice A1 n1 cap1))
    (first | exact ⟨c74, c75, c70, c71⟩ | exact ⟨c66, c67, c62, c63⟩ | exact ⟨c58, c59, c54, c55⟩)
    (first
      | (go_at_call 23; refine (eqCoder_t w12 a0 S3 S5 n1 k3 k5 x1 hl1 (Nat.le_trans hn1 (by decide)) (sl_of_own hp3) (sl_of_own hp5)).mono ?_; rintro e w13 ⟨rfl, hb13⟩; have hp1 := own_below hp1 hb13 (Nat.le_refl _); have hp2 := own_below hp2 hb13 (Nat.le_refl _); have hp3 := own_below hp3 hb13 (Nat.le_refl _); have hp4 := own_below hp4 hb13 (Nat.le_refl _); have hp5 := own_below hp5 hb13 (Nat.le_refl _); have c70 := (hb13.cell (p := ⟨w.heap.size, 0, none⟩) (by simp only []; omega)).trans c62; have c71 := (hb13.cell (p := ⟨w.heap.size, 1, none⟩) (by simp only []; omega)).trans c63; have c72 := (hb13.cell (p := ⟨w.heap.size + 1, 0, none⟩) (by simp only []; omega)).trans c64; have c73 := (hb13.cell (p := ⟨w.heap.size + 1, 1, none⟩) (by simp only []; omega)).trans c65; have c74 := (hb13.cell (p := ⟨w7.heap.size, 0, none⟩) (by simp only []; omega)).trans c66; have c75 := (hb13.cell (p := ⟨w7.heap.size, 1, none⟩) (by simp only []; omega)).trans c67; have c76 := (hb13.cell (p := ⟨w9.heap.size, 0, none⟩) (by simp only []; omega)).trans c68; have c77 := (hb13.cell (p := ⟨w9.heap.size, 1, none⟩) (by simp only []; omega)).trans c69; have Bw13 : Below w.heap.size w w13 := Bw12.trans (hb13.mono Bw12.size); have zw13 := hb13.size)
      | (go_at_call 21; refine (toCoder_c w11.drew a0 A1 n1 cap1 x1 hl1 hn1 (((hx1).below Bw11).more Bw11.size)).mono ?_; rintro e w12 ⟨v1, rfl, ho12_1, hb12⟩; have hb12 := below_undrew hb12; have hp1 := own_below hp1 hb12 (Nat.le_refl _); have hp2 := own_below hp2 hb12 (Nat.le_refl _); have hp3 := own_below hp3 hb12 (Nat.le_refl _); have hp4 := own_below hp4 hb12 (Nat.le_refl _); have c62 := (hb12.cell (p := ⟨w.heap.size, 0, none⟩) (by simp only []; omega)).trans c54; have c63 := (hb12.cell (p := ⟨w.heap.size, 1, none⟩) (by simp only []; omega)).trans c55; have c64 := (hb12.cell (p := ⟨w.heap.size + 1, 0, none⟩) (by simp only []; omega)).trans c56; have c65 := (hb12.cell (p := ⟨w.heap.size + 1, 1, none⟩) (by simp only []; omega)).trans c57; have c66 := (hb12.cell (p := ⟨w7.heap.size, 0, none⟩) (by simp only []; omega)).trans c58; have c67 := (hb12.cell (p := ⟨w7.heap.size, 1, none⟩) (by simp only []; omega)).trans c59; have c68 := (hb12.cell (p := ⟨w9.heap.size, 0, none⟩) (by simp only []; omega)).trans c60; have c69 := (hb12.cell (p := ⟨w9.heap.size, 1, none⟩) (by simp only []; omega)).trans c61; have Bw12 : Below w.heap.size w w12 := Bw11.trans (hb12.mono Bw11.size); have zw12 := hb12.size; obtain ⟨S5, k5, rfl, hp5⟩ := ho12_1.opn; rw [hl1] at hp5 ⊢; clear ho12_1; have hi5 := Lib.hid (own_in hp5)))
  go_wp2_with fail
  go_region_held3 (fun w' => w'.cell? ⟨w9.heap.size, 0, none⟩ = some (.int .i64 a2) ∧ w'.cell? ⟨w9.heap.size, 1, none⟩ = some (.slice S4 n3 k4) ∧ w'.cell? ⟨w.heap.size + 1, 0, none⟩ = some (.int .i64 a2) ∧ w'.cell? ⟨w.heap.size + 1, 1, none⟩ = some (.slice A3 n3 cap3))
    (first | exact ⟨c92, c93, c88, c89⟩ | exact ⟨c84, c85, c80, c81⟩ | exact ⟨c76, c77, c72, c73⟩)
    (first
      | (go_at_call 23; refine (eqCoder_t w14 a2 S4 S6 n3 k4 k6 x3 hl3 (Nat.le_trans hn3 (by decide)) (sl_of_own hp4) (sl_of_own hp6)).mono ?_; rintro e w15 ⟨rfl, hb15⟩; have hp1 := own_below hp1 hb15 (Nat.le_refl _); have hp2 := own_below hp2 hb15 (Nat.le_refl _); have hp3 := own_below hp3 hb15 (Nat.le_refl _); have hp4 := own_below hp4 hb15 (Nat.le_refl _); have hp5 := own_below hp5 hb15 (Nat.le_refl _); have hp6 := own_below hp6 hb15 (Nat.le_refl _); have c86 := (hb15.cell (p := ⟨w.heap.size, 0, none⟩) (by simp only []; omega)).trans c78; have c87 := (hb15.cell (p := ⟨w.heap.size, 1, none⟩) (by simp only []; omega)).trans c79; have c88 := (hb15.cell (p := ⟨w.heap.size + 1, 0, none⟩) (by simp only []; omega)).trans c80; have c89 := (hb15.cell (p := ⟨w.heap.size + 1, 1, none⟩) (by simp only []; omega)).trans c81; have c90 := (hb15.cell (p := ⟨w7.heap.size, 0, none⟩) (by simp only []; omega)).trans c82; have c91 := (hb15.cell (p := ⟨w7.heap.size, 1, none⟩) (by simp only []; omega)).trans c83; have c92 := (hb15.cell (p := ⟨w9.heap.size, 0, none⟩) (by simp only []; omega)).trans c84; have c93 := (hb15.cell (p := ⟨w9.heap.size, 1, none⟩) (by simp only []; omega)).trans c85; have Bw15 : Below w.heap.size w w15 := Bw14.trans (hb15.mono Bw14.size); have zw15 := hb15.size)
      | (go_at_call 21; refine (toCoder_c w13.drew a2 A3 n3 cap3 x3 hl3 hn3 (((hx3).below Bw13).more Bw13.size)).mono ?_; rintro e w14 ⟨v1, rfl, ho14_1, hb14⟩; have hb14 := below_undrew hb14; have hp1 := own_below hp1 hb14 (Nat.le_refl _); have hp2 := own_below hp2 hb14 (Nat.le_refl _); have hp3 := own_below hp3 hb14 (Nat.le_refl _); have hp4 := own_below hp4 hb14 (Nat.le_refl _); have hp5 := own_below hp5 hb14 (Nat.le_refl _); have c78 := (hb14.cell (p := ⟨w.heap.size, 0, none⟩) (by simp only []; omega)).trans c70; have c79 := (hb14.cell (p := ⟨w.heap.size, 1, none⟩) (by simp only []; omega)).trans c71; have c80 := (hb14.cell (p := ⟨w.heap.size + 1, 0, none⟩) (by simp only []; omega)).trans c72; have c81 := (hb14.cell (p := ⟨w.heap.size + 1, 1, none⟩) (by simp only []; omega)).trans c73; have c82 := (hb14.cell (p := ⟨w7.heap.size, 0, none⟩) (by simp only []; omega)).trans c74; have c83 := (hb14.cell (p := ⟨w7.heap.size, 1, none⟩) (by simp only []; omega)).trans c75; have c84 := (hb14.cell (p := ⟨w9.heap.size, 0, none⟩) (by simp only []; omega)).trans c76; have c85 := (hb14.cell (p := ⟨w9.heap.size, 1, none⟩) (by simp only []; omega)).trans c77; have Bw14 : Below w.heap.size w w14 := Bw13.trans (hb14.mono Bw13.size); have zw14 := hb14.size; obtain ⟨S6, k6, rfl, hp6⟩ := ho14_1.opn; rw [hl3] at hp6 ⊢; clear ho14_1; have hi6 := Lib.hid (own_in hp6)))
  go_wp2
  go_ret
  exact ⟨rfl, Bw15⟩

end Go.Proofs.Ytcghalcpbpfkmaa
