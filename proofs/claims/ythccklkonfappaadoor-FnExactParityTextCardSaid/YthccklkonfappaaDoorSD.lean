/-
  Contracts: struct values that are saved: copies, sizes, comparisons.
  Conditions: lengths at most 1048576 where they are copied.
-/
import Derived.Test.YthccklkonfappaaDoorSC
import Derived.Deep.RegionHeld3
namespace Go.Proofs.YthccklkonfappaaDoor
open Go.RowKit



set_option maxRecDepth 100000 in
set_option maxHeartbeats 1000000 in
theorem toCode_c (w : World) (A0 : Option Addr) (n0 cap0 : Nat) (xs0 : List Int) (hl0 : xs0.length = n0) (hn0 : n0 ≤ 1048576) (hx0 : Sl w w.heap.size A0 (xs0.map (Value.int .i64))) :
    Calls Tryd.prog 9 #[.agg #[.slice A0 n0 cap0]] w fun e w' => ∃ v0, e = .returned (.agg #[v0]) ∧ Ow w' w.heap.size 2 v0 (xs0.map (Value.int .i64)) ∧ Below w.heap.size w w' := by
  obtain ⟨w1, e1⟩ : ∃ q : World, q = ((w.alloc (.cells #[.slice A0 n0 cap0] 24)).alloc (.cells #[.slice none 0 0] 28)).alloc (.cells #[.slice none 0 0] 28) := ⟨_, rfl⟩
  have z1 : w1.heap.size = w.heap.size + 1 + 1 + 1 := by rw [e1]; simp
  have B1 : Below w.heap.size w w1 := by rw [e1]; exact (((Below.refl _ _).alloc (Nat.le_refl _) _).alloc (by simp) _).alloc (by simp; omega) _
  have c00_1 : w1.cell? ⟨w.heap.size, 0, none⟩ = some (.slice A0 n0 cap0) := by rw [e1]; (first | (simp; done) | (simp (disch := (first | (simp; done) | (simp; omega))) [World.cell?_alloc_at]; done) | (simp (disch := (first | (simp; done) | (simp; omega))) [World.cell?_alloc_past]; done) | (simp (disch := (first | (simp; done) | (simp; omega))) [World.cell?_alloc_at, World.cell?_alloc_past]; done) | (simp (disch := (first | (simp; done) | (simp; omega))) [World.frozen?_alloc_at]; done) | (simp (disch := (first | (simp; done) | (simp; omega))) [World.frozen?_alloc_past]; done) | (simp (disch := (first | (simp; done) | (simp; omega))) [World.frozen?_alloc_at, World.frozen?_alloc_past]; done))
  have c10_1 : w1.cell? ⟨w.heap.size + 1, 0, none⟩ = some (.slice none 0 0) := by rw [e1]; (first | (simp; done) | (simp (disch := (first | (simp; done) | (simp; omega))) [World.cell?_alloc_at]; done) | (simp (disch := (first | (simp; done) | (simp; omega))) [World.cell?_alloc_past]; done) | (simp (disch := (first | (simp; done) | (simp; omega))) [World.cell?_alloc_at, World.cell?_alloc_past]; done) | (simp (disch := (first | (simp; done) | (simp; omega))) [World.frozen?_alloc_at]; done) | (simp (disch := (first | (simp; done) | (simp; omega))) [World.frozen?_alloc_past]; done) | (simp (disch := (first | (simp; done) | (simp; omega))) [World.frozen?_alloc_at, World.frozen?_alloc_past]; done))
  have c20_1 : w1.cell? ⟨w.heap.size + 1 + 1, 0, none⟩ = some (.slice none 0 0) := by rw [e1]; (first | (simp; done) | (simp (disch := (first | (simp; done) | (simp; omega))) [World.cell?_alloc_at]; done) | (simp (disch := (first | (simp; done) | (simp; omega))) [World.cell?_alloc_past]; done) | (simp (disch := (first | (simp; done) | (simp; omega))) [World.cell?_alloc_at, World.cell?_alloc_past]; done) | (simp (disch := (first | (simp; done) | (simp; omega))) [World.frozen?_alloc_at]; done) | (simp (disch := (first | (simp; done) | (simp; omega))) [World.frozen?_alloc_past]; done) | (simp (disch := (first | (simp; done) | (simp; omega))) [World.frozen?_alloc_at, World.frozen?_alloc_past]; done))
  have f10_1 : w1.frozen? ⟨w.heap.size + 1, 0, none⟩ = false := by rw [e1]; (first | (simp; done) | (simp (disch := (first | (simp; done) | (simp; omega))) [World.cell?_alloc_at]; done) | (simp (disch := (first | (simp; done) | (simp; omega))) [World.cell?_alloc_past]; done) | (simp (disch := (first | (simp; done) | (simp; omega))) [World.cell?_alloc_at, World.cell?_alloc_past]; done) | (simp (disch := (first | (simp; done) | (simp; omega))) [World.frozen?_alloc_at]; done) | (simp (disch := (first | (simp; done) | (simp; omega))) [World.frozen?_alloc_past]; done) | (simp (disch := (first | (simp; done) | (simp; omega))) [World.frozen?_alloc_at, World.frozen?_alloc_past]; done))
  have f20_1 : w1.frozen? ⟨w.heap.size + 1 + 1, 0, none⟩ = false := by rw [e1]; (first | (simp; done) | (simp (disch := (first | (simp; done) | (simp; omega))) [World.cell?_alloc_at]; done) | (simp (disch := (first | (simp; done) | (simp; omega))) [World.cell?_alloc_past]; done) | (simp (disch := (first | (simp; done) | (simp; omega))) [World.cell?_alloc_at, World.cell?_alloc_past]; done) | (simp (disch := (first | (simp; done) | (simp; omega))) [World.frozen?_alloc_at]; done) | (simp (disch := (first | (simp; done) | (simp; omega))) [World.frozen?_alloc_past]; done) | (simp (disch := (first | (simp; done) | (simp; omega))) [World.frozen?_alloc_at, World.frozen?_alloc_past]; done))
  go_enter Tryd.func9, Tryd.ntmps9
  go_wp2_with fail
  rw [← e1]
  clear e1
  refine (toInt64S_c w1 A0 n0 cap0 xs0 hl0 hn0 ((hx0.below B1).more B1.size)).mono ?_
  rintro e w2 ⟨v0, rfl, ho0, hb2⟩
  obtain ⟨S0, k0, rfl, hp0⟩ := ho0.opn
  rw [hl0] at hp0 ⊢
  clear ho0
  have z2 := hb2.size
  have B2 := B1.trans (hb2.mono B1.size)
  have c00_2 := (hb2.cell (p := ⟨w.heap.size, 0, none⟩) (by simp only []; omega)).trans c00_1
  have c10_2 := (hb2.cell (p := ⟨w.heap.size + 1, 0, none⟩) (by simp only []; omega)).trans c10_1
  have c20_2 := (hb2.cell (p := ⟨w.heap.size + 1 + 1, 0, none⟩) (by simp only []; omega)).trans c20_1
  have f10_2 := (hb2.frozen (p := ⟨w.heap.size + 1, 0, none⟩) (by simp only []; omega)).trans f10_1
  have f20_2 := (hb2.frozen (p := ⟨w.heap.size + 1 + 1, 0, none⟩) (by simp only []; omega)).trans f20_1
  clear c00_1 c10_1 c20_1 f10_1 f20_1
  go_wp2
  refine bodyPost_ret (v := .agg #[.slice S0 n0 k0]) (by unfold results; rw [Tryd.results9]; go_simp) rfl ?_
  refine ⟨_, rfl, ?_, ?_⟩
  · unfold Ow
    rw [List.length_map, hl0]
    refine own_base (base := w1.heap.size) ?_ (by omega)
    iterate 2 (refine ownsRow_setCell_below ?_ (by simp; omega) _)
    exact hp0
  · iterate 2 (refine Below.setCell ?_ (by simp <;> omega) _)
    exact B2


set_option maxRecDepth 100000 in
set_option maxHeartbeats 1000000 in
theorem eqCode_t (w : World) (A0 A0r : Option Addr) (n0 cap0 cap0r : Nat) (xs0 : List Int) (hl0 : xs0.length = n0) (hn0 : n0 ≤ 1099511627776) (hx0 : Sl w w.heap.size A0 (xs0.map (Value.int .i64))) (hy0 : Sl w w.heap.size A0r (xs0.map (Value.int .i64))) :
    Calls Tryd.prog 11 #[.agg #[.slice A0 n0 cap0], .agg #[.slice A0r n0 cap0r]] w fun e w' => e = .returned (.bool true) ∧ Below w.heap.size w w' := by
  have hB := ((Below.refl w.heap.size w).alloc (Nat.le_refl _) (Obj.cells #[.slice A0 n0 cap0] 28)).alloc (by simp) (Obj.cells #[.slice A0r n0 cap0r] 28)
  have HB := Lib.hid hB
  clear hB
  go_enter Tryd.func11, Tryd.ntmps11
  go_wp2_with fail
  refine (eqInt64S_t _ A0 A0r n0 cap0 cap0r _ _ xs0 hl0 hn0 (((hx0.alloc (Nat.le_refl _) _).alloc (by simp) _)) (((hy0.alloc (Nat.le_refl _) _).alloc (by simp) _))).mono ?_
  rintro e w' ⟨rfl, q0, rfl⟩
  go_wp2
  go_ret
  exact ⟨rfl, (below_drewN HB.out _)⟩


set_option maxRecDepth 100000 in
set_option maxHeartbeats 1000000 in
theorem toParity_c (w : World) (a0 : Int) (A1 : Option Addr) (n1 cap1 : Nat) (xs1 : List Int) (hl1 : xs1.length = n1) (hn1 : n1 ≤ 1048576) (hx1 : Sl w w.heap.size A1 (xs1.map (Value.int .i64))) :
    Calls Tryd.prog 14 #[.agg #[.int .i64 a0, .slice A1 n1 cap1]] w fun e w' => ∃ v1, e = .returned (.agg #[.int .i64 a0, v1]) ∧ Ow w' w.heap.size 2 v1 (xs1.map (Value.int .i64)) ∧ Below w.heap.size w w' := by
  obtain ⟨w1, e1⟩ : ∃ q : World, q = ((w.alloc (.cells #[.int .i64 a0, .slice A1 n1 cap1] 33)).alloc (.cells #[.int .i64 0, .slice none 0 0] 36)).alloc (.cells #[.int .i64 a0, .slice none 0 0] 36) := ⟨_, rfl⟩
  have z1 : w1.heap.size = w.heap.size + 1 + 1 + 1 := by rw [e1]; simp
  have B1 : Below w.heap.size w w1 := by rw [e1]; exact (((Below.refl _ _).alloc (Nat.le_refl _) _).alloc (by simp) _).alloc (by simp; omega) _
  have c00_1 : w1.cell? ⟨w.heap.size, 0, none⟩ = some (.int .i64 a0) := by rw [e1]; (first | (simp; done) | (simp (disch := (first | (simp; done) | (simp; omega))) [World.cell?_alloc_at]; done) | (simp (disch := (first | (simp; done) | (simp; omega))) [World.cell?_alloc_past]; done) | (simp (disch := (first | (simp; done) | (simp; omega))) [World.cell?_alloc_at, World.cell?_alloc_past]; done) | (simp (disch := (first | (simp; done) | (simp; omega))) [World.frozen?_alloc_at]; done) | (simp (disch := (first | (simp; done) | (simp; omega))) [World.frozen?_alloc_past]; done) | (simp (disch := (first | (simp; done) | (simp; omega))) [World.frozen?_alloc_at, World.frozen?_alloc_past]; done))
  have c10_1 : w1.cell? ⟨w.heap.size + 1, 0, none⟩ = some (.int .i64 0) := by rw [e1]; (first | (simp; done) | (simp (disch := (first | (simp; done) | (simp; omega))) [World.cell?_alloc_at]; done) | (simp (disch := (first | (simp; done) | (simp; omega))) [World.cell?_alloc_past]; done) | (simp (disch := (first | (simp; done) | (simp; omega))) [World.cell?_alloc_at, World.cell?_alloc_past]; done) | (simp (disch := (first | (simp; done) | (simp; omega))) [World.frozen?_alloc_at]; done) | (simp (disch := (first | (simp; done) | (simp; omega))) [World.frozen?_alloc_past]; done) | (simp (disch := (first | (simp; done) | (simp; omega))) [World.frozen?_alloc_at, World.frozen?_alloc_past]; done))
  have c20_1 : w1.cell? ⟨w.heap.size + 1 + 1, 0, none⟩ = some (.int .i64 a0) := by rw [e1]; (first | (simp; done) | (simp (disch := (first | (simp; done) | (simp; omega))) [World.cell?_alloc_at]; done) | (simp (disch := (first | (simp; done) | (simp; omega))) [World.cell?_alloc_past]; done) | (simp (disch := (first | (simp; done) | (simp; omega))) [World.cell?_alloc_at, World.cell?_alloc_past]; done) | (simp (disch := (first | (simp; done) | (simp; omega))) [World.frozen?_alloc_at]; done) | (simp (disch := (first | (simp; done) | (simp; omega))) [World.frozen?_alloc_past]; done) | (simp (disch := (first | (simp; done) | (simp; omega))) [World.frozen?_alloc_at, World.frozen?_alloc_past]; done))
  have c01_1 : w1.cell? ⟨w.heap.size, 1, none⟩ = some (.slice A1 n1 cap1) := by rw [e1]; (first | (simp; done) | (simp (disch := (first | (simp; done) | (simp; omega))) [World.cell?_alloc_at]; done) | (simp (disch := (first | (simp; done) | (simp; omega))) [World.cell?_alloc_past]; done) | (simp (disch := (first | (simp; done) | (simp; omega))) [World.cell?_alloc_at, World.cell?_alloc_past]; done) | (simp (disch := (first | (simp; done) | (simp; omega))) [World.frozen?_alloc_at]; done) | (simp (disch := (first | (simp; done) | (simp; omega))) [World.frozen?_alloc_past]; done) | (simp (disch := (first | (simp; done) | (simp; omega))) [World.frozen?_alloc_at, World.frozen?_alloc_past]; done))
  have c11_1 : w1.cell? ⟨w.heap.size + 1, 1, none⟩ = some (.slice none 0 0) := by rw [e1]; (first | (simp; done) | (simp (disch := (first | (simp; done) | (simp; omega))) [World.cell?_alloc_at]; done) | (simp (disch := (first | (simp; done) | (simp; omega))) [World.cell?_alloc_past]; done) | (simp (disch := (first | (simp; done) | (simp; omega))) [World.cell?_alloc_at, World.cell?_alloc_past]; done) | (simp (disch := (first | (simp; done) | (simp; omega))) [World.frozen?_alloc_at]; done) | (simp (disch := (first | (simp; done) | (simp; omega))) [World.frozen?_alloc_past]; done) | (simp (disch := (first | (simp; done) | (simp; omega))) [World.frozen?_alloc_at, World.frozen?_alloc_past]; done))
  have c21_1 : w1.cell? ⟨w.heap.size + 1 + 1, 1, none⟩ = some (.slice none 0 0) := by rw [e1]; (first | (simp; done) | (simp (disch := (first | (simp; done) | (simp; omega))) [World.cell?_alloc_at]; done) | (simp (disch := (first | (simp; done) | (simp; omega))) [World.cell?_alloc_past]; done) | (simp (disch := (first | (simp; done) | (simp; omega))) [World.cell?_alloc_at, World.cell?_alloc_past]; done) | (simp (disch := (first | (simp; done) | (simp; omega))) [World.frozen?_alloc_at]; done) | (simp (disch := (first | (simp; done) | (simp; omega))) [World.frozen?_alloc_past]; done) | (simp (disch := (first | (simp; done) | (simp; omega))) [World.frozen?_alloc_at, World.frozen?_alloc_past]; done))
  have f10_1 : w1.frozen? ⟨w.heap.size + 1, 0, none⟩ = false := by rw [e1]; (first | (simp; done) | (simp (disch := (first | (simp; done) | (simp; omega))) [World.cell?_alloc_at]; done) | (simp (disch := (first | (simp; done) | (simp; omega))) [World.cell?_alloc_past]; done) | (simp (disch := (first | (simp; done) | (simp; omega))) [World.cell?_alloc_at, World.cell?_alloc_past]; done) | (simp (disch := (first | (simp; done) | (simp; omega))) [World.frozen?_alloc_at]; done) | (simp (disch := (first | (simp; done) | (simp; omega))) [World.frozen?_alloc_past]; done) | (simp (disch := (first | (simp; done) | (simp; omega))) [World.frozen?_alloc_at, World.frozen?_alloc_past]; done))
  have f20_1 : w1.frozen? ⟨w.heap.size + 1 + 1, 0, none⟩ = false := by rw [e1]; (first | (simp; done) | (simp (disch := (first | (simp; done) | (simp; omega))) [World.cell?_alloc_at]; done) | (simp (disch := (first | (simp; done) | (simp; omega))) [World.cell?_alloc_past]; done) | (simp (disch := (first | (simp; done) | (simp; omega))) [World.cell?_alloc_at, World.cell?_alloc_past]; done) | (simp (disch := (first | (simp; done) | (simp; omega))) [World.frozen?_alloc_at]; done) | (simp (disch := (first | (simp; done) | (simp; omega))) [World.frozen?_alloc_past]; done) | (simp (disch := (first | (simp; done) | (simp; omega))) [World.frozen?_alloc_at, World.frozen?_alloc_past]; done))
  have f11_1 : w1.frozen? ⟨w.heap.size + 1, 1, none⟩ = false := by rw [e1]; (first | (simp; done) | (simp (disch := (first | (simp; done) | (simp; omega))) [World.cell?_alloc_at]; done) | (simp (disch := (first | (simp; done) | (simp; omega))) [World.cell?_alloc_past]; done) | (simp (disch := (first | (simp; done) | (simp; omega))) [World.cell?_alloc_at, World.cell?_alloc_past]; done) | (simp (disch := (first | (simp; done) | (simp; omega))) [World.frozen?_alloc_at]; done) | (simp (disch := (first | (simp; done) | (simp; omega))) [World.frozen?_alloc_past]; done) | (simp (disch := (first | (simp; done) | (simp; omega))) [World.frozen?_alloc_at, World.frozen?_alloc_past]; done))
  have f21_1 : w1.frozen? ⟨w.heap.size + 1 + 1, 1, none⟩ = false := by rw [e1]; (first | (simp; done) | (simp (disch := (first | (simp; done) | (simp; omega))) [World.cell?_alloc_at]; done) | (simp (disch := (first | (simp; done) | (simp; omega))) [World.cell?_alloc_past]; done) | (simp (disch := (first | (simp; done) | (simp; omega))) [World.cell?_alloc_at, World.cell?_alloc_past]; done) | (simp (disch := (first | (simp; done) | (simp; omega))) [World.frozen?_alloc_at]; done) | (simp (disch := (first | (simp; done) | (simp; omega))) [World.frozen?_alloc_past]; done) | (simp (disch := (first | (simp; done) | (simp; omega))) [World.frozen?_alloc_at, World.frozen?_alloc_past]; done))
  go_enter Tryd.func14, Tryd.ntmps14
  go_wp2_with fail
  rw [← e1]
  clear e1
  refine (toInt64S_c w1 A1 n1 cap1 xs1 hl1 hn1 ((hx1.below B1).more B1.size)).mono ?_
  rintro e w2 ⟨v1, rfl, ho1, hb2⟩
  obtain ⟨S1, k1, rfl, hp1⟩ := ho1.opn
  rw [hl1] at hp1 ⊢
  clear ho1
  have z2 := hb2.size
  have B2 := B1.trans (hb2.mono B1.size)
  have c00_2 := (hb2.cell (p := ⟨w.heap.size, 0, none⟩) (by simp only []; omega)).trans c00_1
  have c10_2 := (hb2.cell (p := ⟨w.heap.size + 1, 0, none⟩) (by simp only []; omega)).trans c10_1
  have c20_2 := (hb2.cell (p := ⟨w.heap.size + 1 + 1, 0, none⟩) (by simp only []; omega)).trans c20_1
  have c01_2 := (hb2.cell (p := ⟨w.heap.size, 1, none⟩) (by simp only []; omega)).trans c01_1
  have c11_2 := (hb2.cell (p := ⟨w.heap.size + 1, 1, none⟩) (by simp only []; omega)).trans c11_1
  have c21_2 := (hb2.cell (p := ⟨w.heap.size + 1 + 1, 1, none⟩) (by simp only []; omega)).trans c21_1
  have f10_2 := (hb2.frozen (p := ⟨w.heap.size + 1, 0, none⟩) (by simp only []; omega)).trans f10_1
  have f20_2 := (hb2.frozen (p := ⟨w.heap.size + 1 + 1, 0, none⟩) (by simp only []; omega)).trans f20_1
  have f11_2 := (hb2.frozen (p := ⟨w.heap.size + 1, 1, none⟩) (by simp only []; omega)).trans f11_1
  have f21_2 := (hb2.frozen (p := ⟨w.heap.size + 1 + 1, 1, none⟩) (by simp only []; omega)).trans f21_1
  clear c00_1 c10_1 c20_1 c01_1 c11_1 c21_1 f10_1 f20_1 f11_1 f21_1
  go_wp2
  refine bodyPost_ret (v := .agg #[.int .i64 a0, .slice S1 n1 k1]) (by unfold results; rw [Tryd.results14]; go_simp) rfl ?_
  refine ⟨_, rfl, ?_, ?_⟩
  · unfold Ow
    rw [List.length_map, hl1]
    refine own_base (base := w1.heap.size) ?_ (by omega)
    iterate 3 (refine ownsRow_setCell_below ?_ (by simp; omega) _)
    exact hp1
  · iterate 3 (refine Below.setCell ?_ (by simp <;> omega) _)
    exact B2


set_option maxRecDepth 100000 in
set_option maxHeartbeats 1000000 in
theorem eqParity_t (w : World) (a0 : Int) (A1 A1r : Option Addr) (n1 cap1 cap1r : Nat) (xs1 : List Int) (hl1 : xs1.length = n1) (hn1 : n1 ≤ 1099511627776) (hx1 : Sl w w.heap.size A1 (xs1.map (Value.int .i64))) (hy1 : Sl w w.heap.size A1r (xs1.map (Value.int .i64))) :
    Calls Tryd.prog 16 #[.agg #[.int .i64 a0, .slice A1 n1 cap1], .agg #[.int .i64 a0, .slice A1r n1 cap1r]] w fun e w' => e = .returned (.bool true) ∧ Below w.heap.size w w' := by
  have he0 : (a0 == a0) = true := by simp
  have hB := ((Below.refl w.heap.size w).alloc (Nat.le_refl _) (Obj.cells #[.int .i64 a0, .slice A1 n1 cap1] 36)).alloc (by simp) (Obj.cells #[.int .i64 a0, .slice A1r n1 cap1r] 36)
  have HB := Lib.hid hB
  clear hB
  go_enter Tryd.func16, Tryd.ntmps16
  go_wp2_with fail
  refine (eqInt64S_t _ A1 A1r n1 cap1 cap1r _ _ xs1 hl1 hn1 (((hx1.alloc (Nat.le_refl _) _).alloc (by simp) _)) (((hy1.alloc (Nat.le_refl _) _).alloc (by simp) _))).mono ?_
  rintro e w' ⟨rfl, q0, rfl⟩
  go_wp2
  go_ret
  exact ⟨rfl, (below_drewN HB.out _)⟩


set_option maxRecDepth 100000 in
theorem szParity_c (w : World) (m : Int) (A : Option Addr) (n cap : Nat) (left : Int) (h0 : 0 ≤ left) (h1 : left ≤ 1048576) (hn : n ≤ 9223372036854775807) :
    Calls Tryd.prog 12 #[.agg #[.int .i64 m, .slice A n cap], .int .i64 left] w fun e w' => e = .returned (.int .i64 (szr left n)) ∧ Below w.heap.size w w' := by
  have hb := szr_bd h0 h1 n
  obtain ⟨q, hq⟩ : ∃ q, szr left n = q := ⟨_, rfl⟩
  rw [hq] at hb ⊢
  have HQ := Lib.hid hq
  clear hq
  rcases hb with ⟨h2, rfl⟩ | ⟨h2, h3, h4⟩
  all_goals
    go_enter Tryd.func12, Tryd.ntmps12
    go_wp2_with (go_at_call 26; refine (szInt64S_c _ A n cap left h0 h1 hn).mono ?_; rintro e w' ⟨rfl, rfl⟩; rw [HQ.out])
    go_ret
    exact ⟨rfl, (Below.refl _ _).alloc (Nat.le_refl _) _⟩



set_option maxRecDepth 100000 in
theorem szCode_c (w : World) (A : Option Addr) (n cap : Nat) (left : Int) (h0 : 0 ≤ left) (h1 : left ≤ 1048576) (hn : n ≤ 9223372036854775807) :
    Calls Tryd.prog 7 #[.agg #[.slice A n cap], .int .i64 left] w fun e w' => e = .returned (.int .i64 (szr left n)) ∧ Below w.heap.size w w' := by
  have hb := szr_bd h0 h1 n
  obtain ⟨q, hq⟩ : ∃ q, szr left n = q := ⟨_, rfl⟩
  rw [hq] at hb ⊢
  have HQ := Lib.hid hq
  clear hq
  rcases hb with ⟨h2, rfl⟩ | ⟨h2, h3, h4⟩
  all_goals
    go_enter Tryd.func7, Tryd.ntmps7
    go_wp2_with (go_at_call 26; refine (szInt64S_c _ A n cap left h0 h1 hn).mono ?_; rintro e w' ⟨rfl, rfl⟩; rw [HQ.out])
    go_ret
    exact ⟨rfl, (Below.refl _ _).alloc (Nat.le_refl _) _⟩





end Go.Proofs.YthccklkonfappaaDoor
