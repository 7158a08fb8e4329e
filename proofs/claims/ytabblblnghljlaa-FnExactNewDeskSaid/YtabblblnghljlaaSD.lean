/-
  Contracts: struct values that are saved: copies, sizes, comparisons.
  Conditions: lengths at most 1048576 where they are copied.
-/
import Derived.Test.YtabblblnghljlaaSC
import Derived.Deep.RegionHeld3
namespace Go.Proofs.Ytabblblnghljlaa
open Go.RowKit




set_option maxRecDepth 100000 in
set_option maxHeartbeats 1000000 in
theorem eqCode_t (w : World) (A0 A0r : Option Addr) (n0 cap0 cap0r : Nat) (xs0 : List Int) (hl0 : xs0.length = n0) (hn0 : n0 ≤ 1099511627776) (hx0 : Sl w w.heap.size A0 (xs0.map (Value.int .i64))) (hy0 : Sl w w.heap.size A0r (xs0.map (Value.int .i64))) :
    Calls Try.prog 12 #[.agg #[.slice A0 n0 cap0], .agg #[.slice A0r n0 cap0r]] w fun e w' => e = .returned (.bool true) ∧ Below w.heap.size w w' := by
  have hB := ((Below.refl w.heap.size w).alloc (Nat.le_refl _) (Obj.cells #[.slice A0 n0 cap0] 25)).alloc (by simp) (Obj.cells #[.slice A0r n0 cap0r] 25)
  have HB := Lib.hid hB
  clear hB
  go_enter Try.func12, Try.ntmps12
  go_wp2_with fail
  refine (eqInt64S_t _ A0 A0r n0 cap0 cap0r _ _ xs0 hl0 hn0 (((hx0.alloc (Nat.le_refl _) _).alloc (by simp) _)) (((hy0.alloc (Nat.le_refl _) _).alloc (by simp) _))).mono ?_
  rintro e w' ⟨rfl, q0, rfl⟩
  go_wp2
  go_ret
  exact ⟨rfl, (below_drewN HB.out _)⟩



set_option maxRecDepth 100000 in
set_option maxHeartbeats 1000000 in
theorem eqParity_t (w : World) (a0 : Int) (A1 A1r : Option Addr) (n1 cap1 cap1r : Nat) (xs1 : List Int) (hl1 : xs1.length = n1) (hn1 : n1 ≤ 1099511627776) (hx1 : Sl w w.heap.size A1 (xs1.map (Value.int .i64))) (hy1 : Sl w w.heap.size A1r (xs1.map (Value.int .i64))) :
    Calls Try.prog 13 #[.agg #[.int .i64 a0, .slice A1 n1 cap1], .agg #[.int .i64 a0, .slice A1r n1 cap1r]] w fun e w' => e = .returned (.bool true) ∧ Below w.heap.size w w' := by
  have he0 : (a0 == a0) = true := by simp
  have hB := ((Below.refl w.heap.size w).alloc (Nat.le_refl _) (Obj.cells #[.int .i64 a0, .slice A1 n1 cap1] 27)).alloc (by simp) (Obj.cells #[.int .i64 a0, .slice A1r n1 cap1r] 27)
  have HB := Lib.hid hB
  clear hB
  go_enter Try.func13, Try.ntmps13
  go_wp2_with fail
  refine (eqInt64S_t _ A1 A1r n1 cap1 cap1r _ _ xs1 hl1 hn1 (((hx1.alloc (Nat.le_refl _) _).alloc (by simp) _)) (((hy1.alloc (Nat.le_refl _) _).alloc (by simp) _))).mono ?_
  rintro e w' ⟨rfl, q0, rfl⟩
  go_wp2
  go_ret
  exact ⟨rfl, (below_drewN HB.out _)⟩






set_option maxRecDepth 100000 in
set_option maxHeartbeats 1000000 in
theorem eqDesk_t (w : World) (A0 A0r : Option Addr) (n0 cap0 cap0r : Nat) (xs0 : List Nat) (hl0 : xs0.length = n0) (hn0 : n0 ≤ 1099511627776) (hx0 : Sl w w.heap.size A0 (xs0.map (Value.float .f32))) (hy0 : Sl w w.heap.size A0r (xs0.map (Value.float .f32))) (A1 A1r : Option Addr) (n1 cap1 cap1r : Nat) (xs1 : List Int) (hl1 : xs1.length = n1) (hn1 : n1 ≤ 1099511627776) (hx1 : Sl w w.heap.size A1 (xs1.map (Value.int .i64))) (hy1 : Sl w w.heap.size A1r (xs1.map (Value.int .i64))) (a2 : Int) (A3 A3r : Option Addr) (n3 cap3 cap3r : Nat) (xs3 : List Int) (hl3 : xs3.length = n3) (hn3 : n3 ≤ 1099511627776) (hx3 : Sl w w.heap.size A3 (xs3.map (Value.int .i64))) (hy3 : Sl w w.heap.size A3r (xs3.map (Value.int .i64))) (a4 : ByteArray) :
    Calls Try.prog 6 #[.agg #[.slice A0 n0 cap0, .slice A1 n1 cap1, .int .i64 a2, .slice A3 n3 cap3, .string a4], .agg #[.slice A0r n0 cap0r, .slice A1r n1 cap1r, .int .i64 a2, .slice A3r n3 cap3r, .string a4]] w fun e w' => e = .returned (.bool true) ∧ Below w.heap.size w w' := by
  obtain ⟨w1, e1⟩ : ∃ q : World, q = (w.alloc (.cells #[.slice A0 n0 cap0, .slice A1 n1 cap1, .int .i64 a2, .slice A3 n3 cap3, .string a4] 29)).alloc (.cells #[.slice A0r n0 cap0r, .slice A1r n1 cap1r, .int .i64 a2, .slice A3r n3 cap3r, .string a4] 29) := ⟨_, rfl⟩
  have B1 : Below w.heap.size w w1 := by rw [e1]; exact ((Below.refl _ _).alloc (Nat.le_refl _) _).alloc (by simp) _
  have z1 : w1.heap.size = w.heap.size + 1 + 1 := by rw [e1]; simp
  have c0_1 : w1.cell? ⟨w.heap.size, 0, none⟩ = some (.slice A0 n0 cap0) := by rw [e1]; (first | (simp; done) | (simp (disch := (first | (simp; done) | (simp; omega))) [World.cell?_alloc_at]; done) | (simp (disch := (first | (simp; done) | (simp; omega))) [World.cell?_alloc_past]; done) | (simp (disch := (first | (simp; done) | (simp; omega))) [World.cell?_alloc_at, World.cell?_alloc_past]; done) | (simp (disch := (first | (simp; done) | (simp; omega))) [World.frozen?_alloc_at]; done) | (simp (disch := (first | (simp; done) | (simp; omega))) [World.frozen?_alloc_past]; done) | (simp (disch := (first | (simp; done) | (simp; omega))) [World.frozen?_alloc_at, World.frozen?_alloc_past]; done))
  have d0_1 : w1.cell? ⟨w.heap.size + 1, 0, none⟩ = some (.slice A0r n0 cap0r) := by rw [e1]; (first | (simp; done) | (simp (disch := (first | (simp; done) | (simp; omega))) [World.cell?_alloc_at]; done) | (simp (disch := (first | (simp; done) | (simp; omega))) [World.cell?_alloc_past]; done) | (simp (disch := (first | (simp; done) | (simp; omega))) [World.cell?_alloc_at, World.cell?_alloc_past]; done) | (simp (disch := (first | (simp; done) | (simp; omega))) [World.frozen?_alloc_at]; done) | (simp (disch := (first | (simp; done) | (simp; omega))) [World.frozen?_alloc_past]; done) | (simp (disch := (first | (simp; done) | (simp; omega))) [World.frozen?_alloc_at, World.frozen?_alloc_past]; done))
  have c1_1 : w1.cell? ⟨w.heap.size, 1, none⟩ = some (.slice A1 n1 cap1) := by rw [e1]; (first | (simp; done) | (simp (disch := (first | (simp; done) | (simp; omega))) [World.cell?_alloc_at]; done) | (simp (disch := (first | (simp; done) | (simp; omega))) [World.cell?_alloc_past]; done) | (simp (disch := (first | (simp; done) | (simp; omega))) [World.cell?_alloc_at, World.cell?_alloc_past]; done) | (simp (disch := (first | (simp; done) | (simp; omega))) [World.frozen?_alloc_at]; done) | (simp (disch := (first | (simp; done) | (simp; omega))) [World.frozen?_alloc_past]; done) | (simp (disch := (first | (simp; done) | (simp; omega))) [World.frozen?_alloc_at, World.frozen?_alloc_past]; done))
  have d1_1 : w1.cell? ⟨w.heap.size + 1, 1, none⟩ = some (.slice A1r n1 cap1r) := by rw [e1]; (first | (simp; done) | (simp (disch := (first | (simp; done) | (simp; omega))) [World.cell?_alloc_at]; done) | (simp (disch := (first | (simp; done) | (simp; omega))) [World.cell?_alloc_past]; done) | (simp (disch := (first | (simp; done) | (simp; omega))) [World.cell?_alloc_at, World.cell?_alloc_past]; done) | (simp (disch := (first | (simp; done) | (simp; omega))) [World.frozen?_alloc_at]; done) | (simp (disch := (first | (simp; done) | (simp; omega))) [World.frozen?_alloc_past]; done) | (simp (disch := (first | (simp; done) | (simp; omega))) [World.frozen?_alloc_at, World.frozen?_alloc_past]; done))
  have c2_1 : w1.cell? ⟨w.heap.size, 2, none⟩ = some (.int .i64 a2) := by rw [e1]; (first | (simp; done) | (simp (disch := (first | (simp; done) | (simp; omega))) [World.cell?_alloc_at]; done) | (simp (disch := (first | (simp; done) | (simp; omega))) [World.cell?_alloc_past]; done) | (simp (disch := (first | (simp; done) | (simp; omega))) [World.cell?_alloc_at, World.cell?_alloc_past]; done) | (simp (disch := (first | (simp; done) | (simp; omega))) [World.frozen?_alloc_at]; done) | (simp (disch := (first | (simp; done) | (simp; omega))) [World.frozen?_alloc_past]; done) | (simp (disch := (first | (simp; done) | (simp; omega))) [World.frozen?_alloc_at, World.frozen?_alloc_past]; done))
  have d2_1 : w1.cell? ⟨w.heap.size + 1, 2, none⟩ = some (.int .i64 a2) := by rw [e1]; (first | (simp; done) | (simp (disch := (first | (simp; done) | (simp; omega))) [World.cell?_alloc_at]; done) | (simp (disch := (first | (simp; done) | (simp; omega))) [World.cell?_alloc_past]; done) | (simp (disch := (first | (simp; done) | (simp; omega))) [World.cell?_alloc_at, World.cell?_alloc_past]; done) | (simp (disch := (first | (simp; done) | (simp; omega))) [World.frozen?_alloc_at]; done) | (simp (disch := (first | (simp; done) | (simp; omega))) [World.frozen?_alloc_past]; done) | (simp (disch := (first | (simp; done) | (simp; omega))) [World.frozen?_alloc_at, World.frozen?_alloc_past]; done))
  have c3_1 : w1.cell? ⟨w.heap.size, 3, none⟩ = some (.slice A3 n3 cap3) := by rw [e1]; (first | (simp; done) | (simp (disch := (first | (simp; done) | (simp; omega))) [World.cell?_alloc_at]; done) | (simp (disch := (first | (simp; done) | (simp; omega))) [World.cell?_alloc_past]; done) | (simp (disch := (first | (simp; done) | (simp; omega))) [World.cell?_alloc_at, World.cell?_alloc_past]; done) | (simp (disch := (first | (simp; done) | (simp; omega))) [World.frozen?_alloc_at]; done) | (simp (disch := (first | (simp; done) | (simp; omega))) [World.frozen?_alloc_past]; done) | (simp (disch := (first | (simp; done) | (simp; omega))) [World.frozen?_alloc_at, World.frozen?_alloc_past]; done))
  have d3_1 : w1.cell? ⟨w.heap.size + 1, 3, none⟩ = some (.slice A3r n3 cap3r) := by rw [e1]; (first | (simp; done) | (simp (disch := (first | (simp; done) | (simp; omega))) [World.cell?_alloc_at]; done) | (simp (disch := (first | (simp; done) | (simp; omega))) [World.cell?_alloc_past]; done) | (simp (disch := (first | (simp; done) | (simp; omega))) [World.cell?_alloc_at, World.cell?_alloc_past]; done) | (simp (disch := (first | (simp; done) | (simp; omega))) [World.frozen?_alloc_at]; done) | (simp (disch := (first | (simp; done) | (simp; omega))) [World.frozen?_alloc_past]; done) | (simp (disch := (first | (simp; done) | (simp; omega))) [World.frozen?_alloc_at, World.frozen?_alloc_past]; done))
  have c4_1 : w1.cell? ⟨w.heap.size, 4, none⟩ = some (.string a4) := by rw [e1]; (first | (simp; done) | (simp (disch := (first | (simp; done) | (simp; omega))) [World.cell?_alloc_at]; done) | (simp (disch := (first | (simp; done) | (simp; omega))) [World.cell?_alloc_past]; done) | (simp (disch := (first | (simp; done) | (simp; omega))) [World.cell?_alloc_at, World.cell?_alloc_past]; done) | (simp (disch := (first | (simp; done) | (simp; omega))) [World.frozen?_alloc_at]; done) | (simp (disch := (first | (simp; done) | (simp; omega))) [World.frozen?_alloc_past]; done) | (simp (disch := (first | (simp; done) | (simp; omega))) [World.frozen?_alloc_at, World.frozen?_alloc_past]; done))
  have d4_1 : w1.cell? ⟨w.heap.size + 1, 4, none⟩ = some (.string a4) := by rw [e1]; (first | (simp; done) | (simp (disch := (first | (simp; done) | (simp; omega))) [World.cell?_alloc_at]; done) | (simp (disch := (first | (simp; done) | (simp; omega))) [World.cell?_alloc_past]; done) | (simp (disch := (first | (simp; done) | (simp; omega))) [World.cell?_alloc_at, World.cell?_alloc_past]; done) | (simp (disch := (first | (simp; done) | (simp; omega))) [World.frozen?_alloc_at]; done) | (simp (disch := (first | (simp; done) | (simp; omega))) [World.frozen?_alloc_past]; done) | (simp (disch := (first | (simp; done) | (simp; omega))) [World.frozen?_alloc_at, World.frozen?_alloc_past]; done))
  have hx0 := (hx0.below B1).more B1.size
  have hy0 := (hy0.below B1).more B1.size
  have hx1 := (hx1.below B1).more B1.size
  have hy1 := (hy1.below B1).more B1.size
  have hx3 := (hx3.below B1).more B1.size
  have hy3 := (hy3.below B1).more B1.size
  go_enter Try.func6, Try.ntmps6
  go_wp2_with fail
  rw [← e1]
  clear e1
  refine (calls_grow (eqFloat32S_t w1 A0 A0r n0 cap0 cap0r _ _ xs0 xs0 hl0 hn0 rfl hx0 hy0)).mono ?_
  rintro e w2 ⟨rfl, hb2⟩
  have B2 := B1.trans (hb2.mono B1.size)
  have z2 := hb2.size
  have c0_2 := (hb2.cell (p := ⟨w.heap.size, 0, none⟩) (by simp only []; omega)).trans c0_1
  have d0_2 := (hb2.cell (p := ⟨w.heap.size + 1, 0, none⟩) (by simp only []; omega)).trans d0_1
  have c1_2 := (hb2.cell (p := ⟨w.heap.size, 1, none⟩) (by simp only []; omega)).trans c1_1
  have d1_2 := (hb2.cell (p := ⟨w.heap.size + 1, 1, none⟩) (by simp only []; omega)).trans d1_1
  have c2_2 := (hb2.cell (p := ⟨w.heap.size, 2, none⟩) (by simp only []; omega)).trans c2_1
  have d2_2 := (hb2.cell (p := ⟨w.heap.size + 1, 2, none⟩) (by simp only []; omega)).trans d2_1
  have c3_2 := (hb2.cell (p := ⟨w.heap.size, 3, none⟩) (by simp only []; omega)).trans c3_1
  have d3_2 := (hb2.cell (p := ⟨w.heap.size + 1, 3, none⟩) (by simp only []; omega)).trans d3_1
  have c4_2 := (hb2.cell (p := ⟨w.heap.size, 4, none⟩) (by simp only []; omega)).trans c4_1
  have d4_2 := (hb2.cell (p := ⟨w.heap.size + 1, 4, none⟩) (by simp only []; omega)).trans d4_1
  clear c0_1 c1_1 c2_1 c3_1 c4_1 d0_1 d1_1 d2_1 d3_1 d4_1
  go_wp2_with fail
  refine (eqCode_t w2 A1 A1r n1 cap1 cap1r xs1 hl1 hn1 ((hx1.below hb2).more hb2.size) ((hy1.below hb2).more hb2.size)).mono ?_
  rintro e w3 ⟨rfl, hb3⟩
  have B3 := B2.trans (hb3.mono B2.size)
  have z3 := hb3.size
  have c0_3 := (hb3.cell (p := ⟨w.heap.size, 0, none⟩) (by simp only []; omega)).trans c0_2
  have d0_3 := (hb3.cell (p := ⟨w.heap.size + 1, 0, none⟩) (by simp only []; omega)).trans d0_2
  have c1_3 := (hb3.cell (p := ⟨w.heap.size, 1, none⟩) (by simp only []; omega)).trans c1_2
  have d1_3 := (hb3.cell (p := ⟨w.heap.size + 1, 1, none⟩) (by simp only []; omega)).trans d1_2
  have c2_3 := (hb3.cell (p := ⟨w.heap.size, 2, none⟩) (by simp only []; omega)).trans c2_2
  have d2_3 := (hb3.cell (p := ⟨w.heap.size + 1, 2, none⟩) (by simp only []; omega)).trans d2_2
  have c3_3 := (hb3.cell (p := ⟨w.heap.size, 3, none⟩) (by simp only []; omega)).trans c3_2
  have d3_3 := (hb3.cell (p := ⟨w.heap.size + 1, 3, none⟩) (by simp only []; omega)).trans d3_2
  have c4_3 := (hb3.cell (p := ⟨w.heap.size, 4, none⟩) (by simp only []; omega)).trans c4_2
  have d4_3 := (hb3.cell (p := ⟨w.heap.size + 1, 4, none⟩) (by simp only []; omega)).trans d4_2
  clear c0_2 c1_2 c2_2 c3_2 c4_2 d0_2 d1_2 d2_2 d3_2 d4_2
  have hx3 := ((hx3.below hb2).more hb2.size)
  have hy3 := ((hy3.below hb2).more hb2.size)
  go_wp2_with fail
  refine (eqParity_t w3 a2 A3 A3r n3 cap3 cap3r xs3 hl3 hn3 ((hx3.below hb3).more hb3.size) ((hy3.below hb3).more hb3.size)).mono ?_
  rintro e w4 ⟨rfl, hb4⟩
  have B4 := B3.trans (hb4.mono B3.size)
  have c0_4 := (hb4.cell (p := ⟨w.heap.size, 0, none⟩) (by simp only []; omega)).trans c0_3
  have d0_4 := (hb4.cell (p := ⟨w.heap.size + 1, 0, none⟩) (by simp only []; omega)).trans d0_3
  have c1_4 := (hb4.cell (p := ⟨w.heap.size, 1, none⟩) (by simp only []; omega)).trans c1_3
  have d1_4 := (hb4.cell (p := ⟨w.heap.size + 1, 1, none⟩) (by simp only []; omega)).trans d1_3
  have c2_4 := (hb4.cell (p := ⟨w.heap.size, 2, none⟩) (by simp only []; omega)).trans c2_3
  have d2_4 := (hb4.cell (p := ⟨w.heap.size + 1, 2, none⟩) (by simp only []; omega)).trans d2_3
  have c3_4 := (hb4.cell (p := ⟨w.heap.size, 3, none⟩) (by simp only []; omega)).trans c3_3
  have d3_4 := (hb4.cell (p := ⟨w.heap.size + 1, 3, none⟩) (by simp only []; omega)).trans d3_3
  have c4_4 := (hb4.cell (p := ⟨w.heap.size, 4, none⟩) (by simp only []; omega)).trans c4_3
  have d4_4 := (hb4.cell (p := ⟨w.heap.size + 1, 4, none⟩) (by simp only []; omega)).trans d4_3
  clear c0_3 c1_3 c2_3 c3_3 c4_3 d0_3 d1_3 d2_3 d3_3 d4_3
  go_wp2
  go_ret
  exact ⟨rfl, B4⟩

end Go.Proofs.Ytabblblnghljlaa
