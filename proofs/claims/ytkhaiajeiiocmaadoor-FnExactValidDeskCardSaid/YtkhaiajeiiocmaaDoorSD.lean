/-
  Contracts: struct values that are saved: copies, sizes, comparisons.
  Conditions: lengths at most 1048576 where they are copied.
-/
import Derived.Test.YtkhaiajeiiocmaaDoorSC
import Derived.Deep.RegionHeld3
namespace Go.Proofs.YtkhaiajeiiocmaaDoor
open Go.RowKit


theorem szFloat32S_c (w : World) (A : Option Addr) (n cap : Nat) (left : Int) (h0 : 0 ≤ left) (h1 : left ≤ 1048576) (hn : n ≤ 9223372036854775807) :
    Calls Tryd.prog 9 #[.slice A n cap, .int .i64 left] w fun e w' => e = .returned (.int .i64 (szr left n)) ∧ w = w' := by
  by_cases h : left - n < 0
  · have e1 : szr left n = -1 := by unfold szr; rw [if_pos h]
    rw [e1]
    clear e1
    go_enter Tryd.func9, Tryd.ntmps9
    go_wp2
    go_ret
    exact ⟨rfl, rfl⟩
  · have e1 : szr left n = left - n := by unfold szr; rw [if_neg h]
    rw [e1]
    clear e1
    go_enter Tryd.func9, Tryd.ntmps9
    go_wp2
    go_ret
    exact ⟨rfl, rfl⟩


set_option maxRecDepth 100000 in
set_option maxHeartbeats 1000000 in
theorem toCode_c (w : World) (A0 : Option Addr) (n0 cap0 : Nat) (xs0 : List Int) (hl0 : xs0.length = n0) (hn0 : n0 ≤ 1048576) (hx0 : Sl w w.heap.size A0 (xs0.map (Value.int .i64))) :
    Calls Tryd.prog 14 #[.agg #[.slice A0 n0 cap0]] w fun e w' => ∃ v0, e = .returned (.agg #[v0]) ∧ Ow w' w.heap.size 2 v0 (xs0.map (Value.int .i64)) ∧ Below w.heap.size w w' := by
  obtain ⟨w1, e1⟩ : ∃ q : World, q = ((w.alloc (.cells #[.slice A0 n0 cap0] 25)).alloc (.cells #[.slice none 0 0] 32)).alloc (.cells #[.slice none 0 0] 32) := ⟨_, rfl⟩
  have z1 : w1.heap.size = w.heap.size + 1 + 1 + 1 := by rw [e1]; simp
  have B1 : Below w.heap.size w w1 := by rw [e1]; exact (((Below.refl _ _).alloc (Nat.le_refl _) _).alloc (by simp) _).alloc (by simp; omega) _
  have c00_1 : w1.cell? ⟨w.heap.size, 0, none⟩ = some (.slice A0 n0 cap0) := by rw [e1]; (first | (simp; done) | (simp (disch := (first | (simp; done) | (simp; omega))) [World.cell?_alloc_at]; done) | (simp (disch := (first | (simp; done) | (simp; omega))) [World.cell?_alloc_past]; done) | (simp (disch := (first | (simp; done) | (simp; omega))) [World.cell?_alloc_at, World.cell?_alloc_past]; done) | (simp (disch := (first | (simp; done) | (simp; omega))) [World.frozen?_alloc_at]; done) | (simp (disch := (first | (simp; done) | (simp; omega))) [World.frozen?_alloc_past]; done) | (simp (disch := (first | (simp; done) | (simp; omega))) [World.frozen?_alloc_at, World.frozen?_alloc_past]; done))
  have c10_1 : w1.cell? ⟨w.heap.size + 1, 0, none⟩ = some (.slice none 0 0) := by rw [e1]; (first | (simp; done) | (simp (disch := (first | (simp; done) | (simp; omega))) [World.cell?_alloc_at]; done) | (simp (disch := (first | (simp; done) | (simp; omega))) [World.cell?_alloc_past]; done) | (simp (disch := (first | (simp; done) | (simp; omega))) [World.cell?_alloc_at, World.cell?_alloc_past]; done) | (simp (disch := (first | (simp; done) | (simp; omega))) [World.frozen?_alloc_at]; done) | (simp (disch := (first | (simp; done) | (simp; omega))) [World.frozen?_alloc_past]; done) | (simp (disch := (first | (simp; done) | (simp; omega))) [World.frozen?_alloc_at, World.frozen?_alloc_past]; done))
  have c20_1 : w1.cell? ⟨w.heap.size + 1 + 1, 0, none⟩ = some (.slice none 0 0) := by rw [e1]; (first | (simp; done) | (simp (disch := (first | (simp; done) | (simp; omega))) [World.cell?_alloc_at]; done) | (simp (disch := (first | (simp; done) | (simp; omega))) [World.cell?_alloc_past]; done) | (simp (disch := (first | (simp; done) | (simp; omega))) [World.cell?_alloc_at, World.cell?_alloc_past]; done) | (simp (disch := (first | (simp; done) | (simp; omega))) [World.frozen?_alloc_at]; done) | (simp (disch := (first | (simp; done) | (simp; omega))) [World.frozen?_alloc_past]; done) | (simp (disch := (first | (simp; done) | (simp; omega))) [World.frozen?_alloc_at, World.frozen?_alloc_past]; done))
  have f10_1 : w1.frozen? ⟨w.heap.size + 1, 0, none⟩ = false := by rw [e1]; (first | (simp; done) | (simp (disch := (first | (simp; done) | (simp; omega))) [World.cell?_alloc_at]; done) | (simp (disch := (first | (simp; done) | (simp; omega))) [World.cell?_alloc_past]; done) | (simp (disch := (first | (simp; done) | (simp; omega))) [World.cell?_alloc_at, World.cell?_alloc_past]; done) | (simp (disch := (first | (simp; done) | (simp; omega))) [World.frozen?_alloc_at]; done) | (simp (disch := (first | (simp; done) | (simp; omega))) [World.frozen?_alloc_past]; done) | (simp (disch := (first | (simp; done) | (simp; omega))) [World.frozen?_alloc_at, World.frozen?_alloc_past]; done))
  have f20_1 : w1.frozen? ⟨w.heap.size + 1 + 1, 0, none⟩ = false := by rw [e1]; (first | (simp; done) | (simp (disch := (first | (simp; done) | (simp; omega))) [World.cell?_alloc_at]; done) | (simp (disch := (first | (simp; done) | (simp; omega))) [World.cell?_alloc_past]; done) | (simp (disch := (first | (simp; done) | (simp; omega))) [World.cell?_alloc_at, World.cell?_alloc_past]; done) | (simp (disch := (first | (simp; done) | (simp; omega))) [World.frozen?_alloc_at]; done) | (simp (disch := (first | (simp; done) | (simp; omega))) [World.frozen?_alloc_past]; done) | (simp (disch := (first | (simp; done) | (simp; omega))) [World.frozen?_alloc_at, World.frozen?_alloc_past]; done))
  go_enter Tryd.func14, Tryd.ntmps14
  go_wp2_with fail
  rw [← e1]
  clear e1
  refine (toInt64S_c w1 A0 n0 cap0 xs0 hl0 hn0 ((hx0.below B1).more B1.size)).mono ?_
  rintro e w2 ⟨v0, rfl, ho0, hb2⟩
  obtain ⟨S0, k0, rfl, hp0⟩ := ho0.opn
  rw [hl0] at hp0 ⊢
  clear ho0
  have z2 := hb2.size
  have B2 := B1.trans (hb2.mono B1.size)
  have c00_2 := (hb2.cell (p := ⟨w.heap.size, 0, none⟩) (by simp only []; omega)).trans c00_1
  have c10_2 := (hb2.cell (p := ⟨w.heap.size + 1, 0, none⟩) (by simp only []; omega)).trans c10_1
  have c20_2 := (hb2.cell (p := ⟨w.heap.size + 1 + 1, 0, none⟩) (by simp only []; omega)).trans c20_1
  have f10_2 := (hb2.frozen (p := ⟨w.heap.size + 1, 0, none⟩) (by simp only []; omega)).trans f10_1
  have f20_2 := (hb2.frozen (p := ⟨w.heap.size + 1 + 1, 0, none⟩) (by simp only []; omega)).trans f20_1
  clear c00_1 c10_1 c20_1 f10_1 f20_1
  go_wp2
  refine bodyPost_ret (v := .agg #[.slice S0 n0 k0]) (by unfold results; rw [Tryd.results14]; go_simp) rfl ?_
  refine ⟨_, rfl, ?_, ?_⟩
  · unfold Ow
    rw [List.length_map, hl0]
    refine own_base (base := w1.heap.size) ?_ (by omega)
    iterate 2 (refine ownsRow_setCell_below ?_ (by simp; omega) _)
    exact hp0
  · iterate 2 (refine Below.setCell ?_ (by simp <;> omega) _)
    exact B2


set_option maxRecDepth 100000 in
set_option maxHeartbeats 1000000 in
theorem eqCode_t (w : World) (A0 A0r : Option Addr) (n0 cap0 cap0r : Nat) (xs0 : List Int) (hl0 : xs0.length = n0) (hn0 : n0 ≤ 1099511627776) (hx0 : Sl w w.heap.size A0 (xs0.map (Value.int .i64))) (hy0 : Sl w w.heap.size A0r (xs0.map (Value.int .i64))) :
    Calls Tryd.prog 21 #[.agg #[.slice A0 n0 cap0], .agg #[.slice A0r n0 cap0r]] w fun e w' => e = .returned (.bool true) ∧ Below w.heap.size w w' := by
  have hB := ((Below.refl w.heap.size w).alloc (Nat.le_refl _) (Obj.cells #[.slice A0 n0 cap0] 32)).alloc (by simp) (Obj.cells #[.slice A0r n0 cap0r] 32)
  have HB := Lib.hid hB
  clear hB
  go_enter Tryd.func21, Tryd.ntmps21
  go_wp2_with fail
  refine (eqInt64S_t _ A0 A0r n0 cap0 cap0r _ _ xs0 hl0 hn0 (((hx0.alloc (Nat.le_refl _) _).alloc (by simp) _)) (((hy0.alloc (Nat.le_refl _) _).alloc (by simp) _))).mono ?_
  rintro e w' ⟨rfl, q0, rfl⟩
  go_wp2
  go_ret
  exact ⟨rfl, (below_drewN HB.out _)⟩


set_option maxRecDepth 100000 in
set_option maxHeartbeats 1000000 in
theorem toParity_c (w : World) (a0 : Int) (A1 : Option Addr) (n1 cap1 : Nat) (xs1 : List Int) (hl1 : xs1.length = n1) (hn1 : n1 ≤ 1048576) (hx1 : Sl w w.heap.size A1 (xs1.map (Value.int .i64))) :
    Calls Tryd.prog 15 #[.agg #[.int .i64 a0, .slice A1 n1 cap1]] w fun e w' => ∃ v1, e = .returned (.agg #[.int .i64 a0, v1]) ∧ Ow w' w.heap.size 2 v1 (xs1.map (Value.int .i64)) ∧ Below w.heap.size w w' := by
  obtain ⟨w1, e1⟩ : ∃ q : World, q = ((w.alloc (.cells #[.int .i64 a0, .slice A1 n1 cap1] 27)).alloc (.cells #[.int .i64 0, .slice none 0 0] 33)).alloc (.cells #[.int .i64 a0, .slice none 0 0] 33) := ⟨_, rfl⟩
  have z1 : w1.heap.size = w.heap.size + 1 + 1 + 1 := by rw [e1]; simp
  have B1 : Below w.heap.size w w1 := by rw [e1]; exact (((Below.refl _ _).alloc (Nat.le_refl _) _).alloc (by simp) _).alloc (by simp; omega) _
  have c00_1 : w1.cell? ⟨w.heap.size, 0, none⟩ = some (.int .i64 a0) := by rw [e1]; (first | (simp; done) | (simp (disch := (first | (simp; done) | (simp; omega))) [World.cell?_alloc_at]; done) | (simp (disch := (first | (simp; done) | (simp; omega))) [World.cell?_alloc_past]; done) | (simp (disch := (first | (simp; done) | (simp; omega))) [World.cell?_alloc_at, World.cell?_alloc_past]; done) | (simp (disch := (first | (simp; done) | (simp; omega))) [World.frozen?_alloc_at]; done) | (simp (disch := (first | (simp; done) | (simp; omega))) [World.frozen?_alloc_past]; done) | (simp (disch := (first | (simp; done) | (simp; omega))) [World.frozen?_alloc_at, World.frozen?_alloc_past]; done))
  have c10_1 : w1.cell? ⟨w.heap.size + 1, 0, none⟩ = some (.int .i64 0) := by rw [e1]; (first | (simp; done) | (simp (disch := (first | (simp; done) | (simp; omega))) [World.cell?_alloc_at]; done) | (simp (disch := (first | (simp; done) | (simp; omega))) [World.cell?_alloc_past]; done) | (simp (disch := (first | (simp; done) | (simp; omega))) [World.cell?_alloc_at, World.cell?_alloc_past]; done) | (simp (disch := (first | (simp; done) | (simp; omega))) [World.frozen?_alloc_at]; done) | (simp (disch := (first | (simp; done) | (simp; omega))) [World.frozen?_alloc_past]; done) | (simp (disch := (first | (simp; done) | (simp; omega))) [World.frozen?_alloc_at, World.frozen?_alloc_past]; done))
  have c20_1 : w1.cell? ⟨w.heap.size + 1 + 1, 0, none⟩ = some (.int .i64 a0) := by rw [e1]; (first | (simp; done) | (simp (disch := (first | (simp; done) | (simp; omega))) [World.cell?_alloc_at]; done) | (simp (disch := (first | (simp; done) | (simp; omega))) [World.cell?_alloc_past]; done) | (simp (disch := (first | (simp; done) | (simp; omega))) [World.cell?_alloc_at, World.cell?_alloc_past]; done) | (simp (disch := (first | (simp; done) | (simp; omega))) [World.frozen?_alloc_at]; done) | (simp (disch := (first | (simp; done) | (simp; omega))) [World.frozen?_alloc_past]; done) | (simp (disch := (first | (simp; done) | (simp; omega))) [World.frozen?_alloc_at, World.frozen?_alloc_past]; done))
  have c01_1 : w1.cell? ⟨w.heap.size, 1, none⟩ = some (.slice A1 n1 cap1) := by rw [e1]; (first | (simp; done) | (simp (disch := (first | (simp; done) | (simp; omega))) [World.cell?_alloc_at]; done) | (simp (disch := (first | (simp; done) | (simp; omega))) [World.cell?_alloc_past]; done) | (simp (disch := (first | (simp; done) | (simp; omega))) [World.cell?_alloc_at, World.cell?_alloc_past]; done) | (simp (disch := (first | (simp; done) | (simp; omega))) [World.frozen?_alloc_at]; done) | (simp (disch := (first | (simp; done) | (simp; omega))) [World.frozen?_alloc_past]; done) | (simp (disch := (first | (simp; done) | (simp; omega))) [World.frozen?_alloc_at, World.frozen?_alloc_past]; done))
  have c11_1 : w1.cell? ⟨w.heap.size + 1, 1, none⟩ = some (.slice none 0 0) := by rw [e1]; (first | (simp; done) | (simp (disch := (first | (simp; done) | (simp; omega))) [World.cell?_alloc_at]; done) | (simp (disch := (first | (simp; done) | (simp; omega))) [World.cell?_alloc_past]; done) | (simp (disch := (first | (simp; done) | (simp; omega))) [World.cell?_alloc_at, World.cell?_alloc_past]; done) | (simp (disch := (first | (simp; done) | (simp; omega))) [World.frozen?_alloc_at]; done) | (simp (disch := (first | (simp; done) | (simp; omega))) [World.frozen?_alloc_past]; done) | (simp (disch := (first | (simp; done) | (simp; omega))) [World.frozen?_alloc_at, World.frozen?_alloc_past]; done))
  have c21_1 : w1.cell? ⟨w.heap.size + 1 + 1, 1, none⟩ = some (.slice none 0 0) := by rw [e1]; (first | (simp; done) | (simp (disch := (first | (simp; done) | (simp; omega))) [World.cell?_alloc_at]; done) | (simp (disch := (first | (simp; done) | (simp; omega))) [World.cell?_alloc_past]; done) | (simp (disch := (first | (simp; done) | (simp; omega))) [World.cell?_alloc_at, World.cell?_alloc_past]; done) | (simp (disch := (first | (simp; done) | (simp; omega))) [World.frozen?_alloc_at]; done) | (simp (disch := (first | (simp; done) | (simp; omega))) [World.frozen?_alloc_past]; done) | (simp (disch := (first | (simp; done) | (simp; omega))) [World.frozen?_alloc_at, World.frozen?_alloc_past]; done))
  have f10_1 : w1.frozen? ⟨w.heap.size + 1, 0, none⟩ = false := by rw [e1]; (first | (simp; done) | (simp (disch := (first | (simp; done) | (simp; omega))) [World.cell?_alloc_at]; done) | (simp (disch := (first | (simp; done) | (simp; omega))) [World.cell?_alloc_past]; done) | (simp (disch := (first | (simp; done) | (simp; omega))) [World.cell?_alloc_at, World.cell?_alloc_past]; done) | (simp (disch := (first | (simp; done) | (simp; omega))) [World.frozen?_alloc_at]; done) | (simp (disch := (first | (simp; done) | (simp; omega))) [World.frozen?_alloc_past]; done) | (simp (disch := (first | (simp; done) | (simp; omega))) [World.frozen?_alloc_at, World.frozen?_alloc_past]; done))
  have f20_1 : w1.frozen? ⟨w.heap.size + 1 + 1, 0, none⟩ = false := by rw [e1]; (first | (simp; done) | (simp (disch := (first | (simp; done) | (simp; omega))) [World.cell?_alloc_at]; done) | (simp (disch := (first | (simp; done) | (simp; omega))) [World.cell?_alloc_past]; done) | (simp (disch := (first | (simp; done) | (simp; omega))) [World.cell?_alloc_at, World.cell?_alloc_past]; done) | (simp (disch := (first | (simp; done) | (simp; omega))) [World.frozen?_alloc_at]; done) | (simp (disch := (first | (simp; done) | (simp; omega))) [World.frozen?_alloc_past]; done) | (simp (disch := (first | (simp; done) | (simp; omega))) [World.frozen?_alloc_at, World.frozen?_alloc_past]; done))
  have f11_1 : w1.frozen? ⟨w.heap.size + 1, 1, none⟩ = false := by rw [e1]; (first | (simp; done) | (simp (disch := (first | (simp; done) | (simp; omega))) [World.cell?_alloc_at]; done) | (simp (disch := (first | (simp; done) | (simp; omega))) [World.cell?_alloc_past]; done) | (simp (disch := (first | (simp; done) | (simp; omega))) [World.cell?_alloc_at, World.cell?_alloc_past]; done) | (simp (disch := (first | (simp; done) | (simp; omega))) [World.frozen?_alloc_at]; done) | (simp (disch := (first | (simp; done) | (simp; omega))) [World.frozen?_alloc_past]; done) | (simp (disch := (first | (simp; done) | (simp; omega))) [World.frozen?_alloc_at, World.frozen?_alloc_past]; done))
  have f21_1 : w1.frozen? ⟨w.heap.size + 1 + 1, 1, none⟩ = false := by rw [e1]; (first | (simp; done) | (simp (disch := (first | (simp; done) | (simp; omega))) [World.cell?_alloc_at]; done) | (simp (disch := (first | (simp; done) | (simp; omega))) [World.cell?_alloc_past]; done) | (simp (disch := (first | (simp; done) | (simp; omega))) [World.cell?_alloc_at, World.cell?_alloc_past]; done) | (simp (disch := (first | (simp; done) | (simp; omega))) [World.frozen?_alloc_at]; done) | (simp (disch := (first | (simp; done) | (simp; omega))) [World.frozen?_alloc_past]; done) | (simp (disch := (first | (simp; done) | (simp; omega))) [World.frozen?_alloc_at, World.frozen?_alloc_past]; done))
  go_enter Tryd.func15, Tryd.ntmps15
  go_wp2_with fail
  rw [← e1]
  clear e1
  refine (toInt64S_c w1 A1 n1 cap1 xs1 hl1 hn1 ((hx1.below B1).more B1.size)).mono ?_
  rintro e w2 ⟨v1, rfl, ho1, hb2⟩
  obtain ⟨S1, k1, rfl, hp1⟩ := ho1.opn
  rw [hl1] at hp1 ⊢
  clear ho1
  have z2 := hb2.size
  have B2 := B1.trans (hb2.mono B1.size)
  have c00_2 := (hb2.cell (p := ⟨w.heap.size, 0, none⟩) (by simp only []; omega)).trans c00_1
  have c10_2 := (hb2.cell (p := ⟨w.heap.size + 1, 0, none⟩) (by simp only []; omega)).trans c10_1
  have c20_2 := (hb2.cell (p := ⟨w.heap.size + 1 + 1, 0, none⟩) (by simp only []; omega)).trans c20_1
  have c01_2 := (hb2.cell (p := ⟨w.heap.size, 1, none⟩) (by simp only []; omega)).trans c01_1
  have c11_2 := (hb2.cell (p := ⟨w.heap.size + 1, 1, none⟩) (by simp only []; omega)).trans c11_1
  have c21_2 := (hb2.cell (p := ⟨w.heap.size + 1 + 1, 1, none⟩) (by simp only []; omega)).trans c21_1
  have f10_2 := (hb2.frozen (p := ⟨w.heap.size + 1, 0, none⟩) (by simp only []; omega)).trans f10_1
  have f20_2 := (hb2.frozen (p := ⟨w.heap.size + 1 + 1, 0, none⟩) (by simp only []; omega)).trans f20_1
  have f11_2 := (hb2.frozen (p := ⟨w.heap.size + 1, 1, none⟩) (by simp only []; omega)).trans f11_1
  have f21_2 := (hb2.frozen (p := ⟨w.heap.size + 1 + 1, 1, none⟩) (by simp only []; omega)).trans f21_1
  clear c00_1 c10_1 c20_1 c01_1 c11_1 c21_1 f10_1 f20_1 f11_1 f21_1
  go_wp2
  refine bodyPost_ret (v := .agg #[.int .i64 a0, .slice S1 n1 k1]) (by unfold results; rw [Tryd.results15]; go_simp) rfl ?_
  refine ⟨_, rfl, ?_, ?_⟩
  · unfold Ow
    rw [List.length_map, hl1]
    refine own_base (base := w1.heap.size) ?_ (by omega)
    iterate 3 (refine ownsRow_setCell_below ?_ (by simp; omega) _)
    exact hp1
  · iterate 3 (refine Below.setCell ?_ (by simp <;> omega) _)
    exact B2


set_option maxRecDepth 100000 in
set_option maxHeartbeats 1000000 in
theorem eqParity_t (w : World) (a0 : Int) (A1 A1r : Option Addr) (n1 cap1 cap1r : Nat) (xs1 : List Int) (hl1 : xs1.length = n1) (hn1 : n1 ≤ 1099511627776) (hx1 : Sl w w.heap.size A1 (xs1.map (Value.int .i64))) (hy1 : Sl w w.heap.size A1r (xs1.map (Value.int .i64))) :
    Calls Tryd.prog 22 #[.agg #[.int .i64 a0, .slice A1 n1 cap1], .agg #[.int .i64 a0, .slice A1r n1 cap1r]] w fun e w' => e = .returned (.bool true) ∧ Below w.heap.size w w' := by
  have he0 : (a0 == a0) = true := by simp
  have hB := ((Below.refl w.heap.size w).alloc (Nat.le_refl _) (Obj.cells #[.int .i64 a0, .slice A1 n1 cap1] 33)).alloc (by simp) (Obj.cells #[.int .i64 a0, .slice A1r n1 cap1r] 33)
  have HB := Lib.hid hB
  clear hB
  go_enter Tryd.func22, Tryd.ntmps22
  go_wp2_with fail
  refine (eqInt64S_t _ A1 A1r n1 cap1 cap1r _ _ xs1 hl1 hn1 (((hx1.alloc (Nat.le_refl _) _).alloc (by simp) _)) (((hy1.alloc (Nat.le_refl _) _).alloc (by simp) _))).mono ?_
  rintro e w' ⟨rfl, q0, rfl⟩
  go_wp2
  go_ret
  exact ⟨rfl, (below_drewN HB.out _)⟩


set_option maxRecDepth 100000 in
theorem szParity_c (w : World) (m : Int) (A : Option Addr) (n cap : Nat) (left : Int) (h0 : 0 ≤ left) (h1 : left ≤ 1048576) (hn : n ≤ 9223372036854775807) :
    Calls Tryd.prog 11 #[.agg #[.int .i64 m, .slice A n cap], .int .i64 left] w fun e w' => e = .returned (.int .i64 (szr left n)) ∧ Below w.heap.size w w' := by
  have hb := szr_bd h0 h1 n
  obtain ⟨q, hq⟩ : ∃ q, szr left n = q := ⟨_, rfl⟩
  rw [hq] at hb ⊢
  have HQ := Lib.hid hq
  clear hq
  rcases hb with ⟨h2, rfl⟩ | ⟨h2, h3, h4⟩
  all_goals
    go_enter Tryd.func11, Tryd.ntmps11
    go_wp2_with (go_at_call 23; refine (szInt64S_c _ A n cap left h0 h1 hn).mono ?_; rintro e w' ⟨rfl, rfl⟩; rw [HQ.out])
    go_ret
    exact ⟨rfl, (Below.refl _ _).alloc (Nat.le_refl _) _⟩



set_option maxRecDepth 100000 in
theorem szCode_c (w : World) (A : Option Addr) (n cap : Nat) (left : Int) (h0 : 0 ≤ left) (h1 : left ≤ 1048576) (hn : n ≤ 9223372036854775807) :
    Calls Tryd.prog 10 #[.agg #[.slice A n cap], .int .i64 left] w fun e w' => e = .returned (.int .i64 (szr left n)) ∧ Below w.heap.size w w' := by
  have hb := szr_bd h0 h1 n
  obtain ⟨q, hq⟩ : ∃ q, szr left n = q := ⟨_, rfl⟩
  rw [hq] at hb ⊢
  have HQ := Lib.hid hq
  clear hq
  rcases hb with ⟨h2, rfl⟩ | ⟨h2, h3, h4⟩
  all_goals
    go_enter Tryd.func10, Tryd.ntmps10
    go_wp2_with (go_at_call 23; refine (szInt64S_c _ A n cap left h0 h1 hn).mono ?_; rintro e w' ⟨rfl, rfl⟩; rw [HQ.out])
    go_ret
    exact ⟨rfl, (Below.refl _ _).alloc (Nat.le_refl _) _⟩



set_option maxRecDepth 100000 in
set_option maxHeartbeats 1000000 in
theorem toDesk_c (w : World) (A0 : Option Addr) (n0 cap0 : Nat) (xs0 : List Nat) (hl0 : xs0.length = n0) (hn0 : n0 ≤ 1048576) (hx0 : Sl w w.heap.size A0 (xs0.map (Value.float .f32))) (A1 : Option Addr) (n1 cap1 : Nat) (xs1 : List Int) (hl1 : xs1.length = n1) (hn1 : n1 ≤ 1048576) (hx1 : Sl w w.heap.size A1 (xs1.map (Value.int .i64))) (a2 : Int) (A3 : Option Addr) (n3 cap3 : Nat) (xs3 : List Int) (hl3 : xs3.length = n3) (hn3 : n3 ≤ 1048576) (hx3 : Sl w w.heap.size A3 (xs3.map (Value.int .i64))) (a4 : ByteArray) :
    Calls Tryd.prog 6 #[.agg #[.slice A0 n0 cap0, .slice A1 n1 cap1, .int .i64 a2, .slice A3 n3 cap3, .string a4]] w fun e w' => ∃ v0 v1 v3, e = .returned (.agg #[v0, v1, .int .i64 a2, v3, .string a4]) ∧ Ow w' w.heap.size 59 v0 (xs0.map (Value.float .f32)) ∧ Ow w' w.heap.size 2 v1 (xs1.map (Value.int .i64)) ∧ Ow w' w.heap.size 2 v3 (xs3.map (Value.int .i64)) ∧ Below w.heap.size w w' := by
  obtain ⟨w1, e1⟩ : ∃ q : World, q = ((w.alloc (.cells #[.slice A0 n0 cap0, .slice A1 n1 cap1, .int .i64 a2, .slice A3 n3 cap3, .string a4] 29)).alloc (.cells #[.slice none 0 0, .slice none 0 0, .int .i64 0, .slice none 0 0, .string ⟨#[]⟩] 35)).alloc (.cells #[.slice none 0 0, .slice none 0 0, .int .i64 0, .slice none 0 0, .string ⟨#[]⟩] 35) := ⟨_, rfl⟩
  have z1 : w1.heap.size = w.heap.size + 1 + 1 + 1 := by rw [e1]; simp
  have B1 : Below w.heap.size w w1 := by rw [e1]; exact (((Below.refl _ _).alloc (Nat.le_refl _) _).alloc (by simp) _).alloc (by simp; omega) _
  have c00_1 : w1.cell? ⟨w.heap.size, 0, none⟩ = some (.slice A0 n0 cap0) := by rw [e1]; (first | (simp; done) | (simp (disch := (first | (simp; done) | (simp; omega))) [World.cell?_alloc_at]; done) | (simp (disch := (first | (simp; done) | (simp; omega))) [World.cell?_alloc_past]; done) | (simp (disch := (first | (simp; done) | (simp; omega))) [World.cell?_alloc_at, World.cell?_alloc_past]; done) | (simp (disch := (first | (simp; done) | (simp; omega))) [World.frozen?_alloc_at]; done) | (simp (disch := (first | (simp; done) | (simp; omega))) [World.frozen?_alloc_past]; done) | (simp (disch := (first | (simp; done) | (simp; omega))) [World.frozen?_alloc_at, World.frozen?_alloc_past]; done))
  have c01_1 : w1.cell? ⟨w.heap.size, 1, none⟩ = some (.slice A1 n1 cap1) := by rw [e1]; (first | (simp; done) | (simp (disch := (first | (simp; done) | (simp; omega))) [World.cell?_alloc_at]; done) | (simp (disch := (first | (simp; done) | (simp; omega))) [World.cell?_alloc_past]; done) | (simp (disch := (first | (simp; done) | (simp; omega))) [World.cell?_alloc_at, World.cell?_alloc_past]; done) | (simp (disch := (first | (simp; done) | (simp; omega))) [World.frozen?_alloc_at]; done) | (simp (disch := (first | (simp; done) | (simp; omega))) [World.frozen?_alloc_past]; done) | (simp (disch := (first | (simp; done) | (simp; omega))) [World.frozen?_alloc_at, World.frozen?_alloc_past]; done))
  have c02_1 : w1.cell? ⟨w.heap.size, 2, none⟩ = some (.int .i64 a2) := by rw [e1]; (first | (simp; done) | (simp (disch := (first | (simp; done) | (simp; omega))) [World.cell?_alloc_at]; done) | (simp (disch := (first | (simp; done) | (simp; omega))) [World.cell?_alloc_past]; done) | (simp (disch := (first | (simp; done) | (simp; omega))) [World.cell?_alloc_at, World.cell?_alloc_past]; done) | (simp (disch := (first | (simp; done) | (simp; omega))) [World.frozen?_alloc_at]; done) | (simp (disch := (first | (simp; done) | (simp; omega))) [World.frozen?_alloc_past]; done) | (simp (disch := (first | (simp; done) | (simp; omega))) [World.frozen?_alloc_at, World.frozen?_alloc_past]; done))
  have c03_1 : w1.cell? ⟨w.heap.size, 3, none⟩ = some (.slice A3 n3 cap3) := by rw [e1]; (first | (simp; done) | (simp (disch := (first | (simp; done) | (simp; omega))) [World.cell?_alloc_at]; done) | (simp (disch := (first | (simp; done) | (simp; omega))) [World.cell?_alloc_past]; done) | (simp (disch := (first | (simp; done) | (simp; omega))) [World.cell?_alloc_at, World.cell?_alloc_past]; done) | (simp (disch := (first | (simp; done) | (simp; omega))) [World.frozen?_alloc_at]; done) | (simp (disch := (first | (simp; done) | (simp; omega))) [World.frozen?_alloc_past]; done) | (simp (disch := (first | (simp; done) | (simp; omega))) [World.frozen?_alloc_at, World.frozen?_alloc_past]; done))
  have c04_1 : w1.cell? ⟨w.heap.size, 4, none⟩ = some (.string a4) := by rw [e1]; (first | (simp; done) | (simp (disch := (first | (simp; done) | (simp; omega))) [World.cell?_alloc_at]; done) | (simp (disch := (first | (simp; done) | (simp; omega))) [World.cell?_alloc_past]; done) | (simp (disch := (first | (simp; done) | (simp; omega))) [World.cell?_alloc_at, World.cell?_alloc_past]; done) | (simp (disch := (first | (simp; done) | (simp; omega))) [World.frozen?_alloc_at]; done) | (simp (disch := (first | (simp; done) | (simp; omega))) [World.frozen?_alloc_past]; done) | (simp (disch := (first | (simp; done) | (simp; omega))) [World.frozen?_alloc_at, World.frozen?_alloc_past]; done))
  have c10_1 : w1.cell? ⟨w.heap.size + 1, 0, none⟩ = some (.slice none 0 0) := by rw [e1]; (first | (simp; done) | (simp (disch := (first | (simp; done) | (simp; omega))) [World.cell?_alloc_at]; done) | (simp (disch := (first | (simp; done) | (simp; omega))) [World.cell?_alloc_past]; done) | (simp (disch := (first | (simp; done) | (simp; omega))) [World.cell?_alloc_at, World.cell?_alloc_past]; done) | (simp (disch := (first | (simp; done) | (simp; omega))) [World.frozen?_alloc_at]; done) | (simp (disch := (first | (simp; done) | (simp; omega))) [World.frozen?_alloc_past]; done) | (simp (disch := (first | (simp; done) | (simp; omega))) [World.frozen?_alloc_at, World.frozen?_alloc_past]; done))
  have c11_1 : w1.cell? ⟨w.heap.size + 1, 1, none⟩ = some (.slice none 0 0) := by rw [e1]; (first | (simp; done) | (simp (disch := (first | (simp; done) | (simp; omega))) [World.cell?_alloc_at]; done) | (simp (disch := (first | (simp; done) | (simp; omega))) [World.cell?_alloc_past]; done) | (simp (disch := (first | (simp; done) | (simp; omega))) [World.cell?_alloc_at, World.cell?_alloc_past]; done) | (simp (disch := (first | (simp; done) | (simp; omega))) [World.frozen?_alloc_at]; done) | (simp (disch := (first | (simp; done) | (simp; omega))) [World.frozen?_alloc_past]; done) | (simp (disch := (first | (simp; done) | (simp; omega))) [World.frozen?_alloc_at, World.frozen?_alloc_past]; done))
  have c12_1 : w1.cell? ⟨w.heap.size + 1, 2, none⟩ = some (.int .i64 0) := by rw [e1]; (first | (simp; done) | (simp (disch := (first | (simp; done) | (simp; omega))) [World.cell?_alloc_at]; done) | (simp (disch := (first | (simp; done) | (simp; omega))) [World.cell?_alloc_past]; done) | (simp (disch := (first | (simp; done) | (simp; omega))) [World.cell?_alloc_at, World.cell?_alloc_past]; done) | (simp (disch := (first | (simp; done) | (simp; omega))) [World.frozen?_alloc_at]; done) | (simp (disch := (first | (simp; done) | (simp; omega))) [World.frozen?_alloc_past]; done) | (simp (disch := (first | (simp; done) | (simp; omega))) [World.frozen?_alloc_at, World.frozen?_alloc_past]; done))
  have c13_1 : w1.cell? ⟨w.heap.size + 1, 3, none⟩ = some (.slice none 0 0) := by rw [e1]; (first | (simp; done) | (simp (disch := (first | (simp; done) | (simp; omega))) [World.cell?_alloc_at]; done) | (simp (disch := (first | (simp; done) | (simp; omega))) [World.cell?_alloc_past]; done) | (simp (disch := (first | (simp; done) | (simp; omega))) [World.cell?_alloc_at, World.cell?_alloc_past]; done) | (simp (disch := (first | (simp; done) | (simp; omega))) [World.frozen?_alloc_at]; done) | (simp (disch := (first | (simp; done) | (simp; omega))) [World.frozen?_alloc_past]; done) | (simp (disch := (first | (simp; done) | (simp; omega))) [World.frozen?_alloc_at, World.frozen?_alloc_past]; done))
  have c14_1 : w1.cell? ⟨w.heap.size + 1, 4, none⟩ = some (.string ⟨#[]⟩) := by rw [e1]; (first | (simp; done) | (simp (disch := (first | (simp; done) | (simp; omega))) [World.cell?_alloc_at]; done) | (simp (disch := (first | (simp; done) | (simp; omega))) [World.cell?_alloc_past]; done) | (simp (disch := (first | (simp; done) | (simp; omega))) [World.cell?_alloc_at, World.cell?_alloc_past]; done) | (simp (disch := (first | (simp; done) | (simp; omega))) [World.frozen?_alloc_at]; done) | (simp (disch := (first | (simp; done) | (simp; omega))) [World.frozen?_alloc_past]; done) | (simp (disch := (first | (simp; done) | (simp; omega))) [World.frozen?_alloc_at, World.frozen?_alloc_past]; done))
  have c20_1 : w1.cell? ⟨w.heap.size + 1 + 1, 0, none⟩ = some (.slice none 0 0) := by rw [e1]; (first | (simp; done) | (simp (disch := (first | (simp; done) | (simp; omega))) [World.cell?_alloc_at]; done) | (simp (disch := (first | (simp; done) | (simp; omega))) [World.cell?_alloc_past]; done) | (simp (disch := (first | (simp; done) | (simp; omega))) [World.cell?_alloc_at, World.cell?_alloc_past]; done) | (simp (disch := (first | (simp; done) | (simp; omega))) [World.frozen?_alloc_at]; done) | (simp (disch := (first | (simp; done) | (simp; omega))) [World.frozen?_alloc_past]; done) | (simp (disch := (first | (simp; done) | (simp; omega))) [World.frozen?_alloc_at, World.frozen?_alloc_past]; done))
  have c21_1 : w1.cell? ⟨w.heap.size + 1 + 1, 1, none⟩ = some (.slice none 0 0) := by rw [e1]; (first | (simp; done) | (simp (disch := (first | (simp; done) | (simp; omega))) [World.cell?_alloc_at]; done) | (simp (disch := (first | (simp; done) | (simp; omega))) [World.cell?_alloc_past]; done) | (simp (disch := (first | (simp; done) | (simp; omega))) [World.cell?_alloc_at, World.cell?_alloc_past]; done) | (simp (disch := (first | (simp; done) | (simp; omega))) [World.frozen?_alloc_at]; done) | (simp (disch := (first | (simp; done) | (simp; omega))) [World.frozen?_alloc_past]; done) | (simp (disch := (first | (simp; done) | (simp; omega))) [World.frozen?_alloc_at, World.frozen?_alloc_past]; done))
  have c22_1 : w1.cell? ⟨w.heap.size + 1 + 1, 2, none⟩ = some (.int .i64 0) := by rw [e1]; (first | (simp; done) | (simp (disch := (first | (simp; done) | (simp; omega))) [World.cell?_alloc_at]; done) | (simp (disch := (first | (simp; done) | (simp; omega))) [World.cell?_alloc_past]; done) | (simp (disch := (first | (simp; done) | (simp; omega))) [World.cell?_alloc_at, World.cell?_alloc_past]; done) | (simp (disch := (first | (simp; done) | (simp; omega))) [World.frozen?_alloc_at]; done) | (simp (disch := (first | (simp; done) | (simp; omega))) [World.frozen?_alloc_past]; done) | (simp (disch := (first | (simp; done) | (simp; omega))) [World.frozen?_alloc_at, World.frozen?_alloc_past]; done))
  have c23_1 : w1.cell? ⟨w.heap.size + 1 + 1, 3, none⟩ = some (.slice none 0 0) := by rw [e1]; (first | (simp; done) | (simp (disch := (first | (simp; done) | (simp; omega))) [World.cell?_alloc_at]; done) | (simp (disch := (first | (simp; done) | (simp; omega))) [World.cell?_alloc_past]; done) | (simp (disch := (first | (simp; done) | (simp; omega))) [World.cell?_alloc_at, World.cell?_alloc_past]; done) | (simp (disch := (first | (simp; done) | (simp; omega))) [World.frozen?_alloc_at]; done) | (simp (disch := (first | (simp; done) | (simp; omega))) [World.frozen?_alloc_past]; done) | (simp (disch := (first | (simp; done) | (simp; omega))) [World.frozen?_alloc_at, World.frozen?_alloc_past]; done))
  have c24_1 : w1.cell? ⟨w.heap.size + 1 + 1, 4, none⟩ = some (.string ⟨#[]⟩) := by rw [e1]; (first | (simp; done) | (simp (disch := (first | (simp; done) | (simp; omega))) [World.cell?_alloc_at]; done) | (simp (disch := (first | (simp; done) | (simp; omega))) [World.cell?_alloc_past]; done) | (simp (disch := (first | (simp; done) | (simp; omega))) [World.cell?_alloc_at, World.cell?_alloc_past]; done) | (simp (disch := (first | (simp; done) | (simp; omega))) [World.frozen?_alloc_at]; done) | (simp (disch := (first | (simp; done) | (simp; omega))) [World.frozen?_alloc_past]; done) | (simp (disch := (first | (simp; done) | (simp; omega))) [World.frozen?_alloc_at, World.frozen?_alloc_past]; done))
  have f10_1 : w1.frozen? ⟨w.heap.size + 1, 0, none⟩ = false := by rw [e1]; (first | (simp; done) | (simp (disch := (first | (simp; done) | (simp; omega))) [World.cell?_alloc_at]; done) | (simp (disch := (first | (simp; done) | (simp; omega))) [World.cell?_alloc_past]; done) | (simp (disch := (first | (simp; done) | (simp; omega))) [World.cell?_alloc_at, World.cell?_alloc_past]; done) | (simp (disch := (first | (simp; done) | (simp; omega))) [World.frozen?_alloc_at]; done) | (simp (disch := (first | (simp; done) | (simp; omega))) [World.frozen?_alloc_past]; done) | (simp (disch := (first | (simp; done) | (simp; omega))) [World.frozen?_alloc_at, World.frozen?_alloc_past]; done))
  have f11_1 : w1.frozen? ⟨w.heap.size + 1, 1, none⟩ = false := by rw [e1]; (first | (simp; done) | (simp (disch := (first | (simp; done) | (simp; omega))) [World.cell?_alloc_at]; done) | (simp (disch := (first | (simp; done) | (simp; omega))) [World.cell?_alloc_past]; done) | (simp (disch := (first | (simp; done) | (simp; omega))) [World.cell?_alloc_at, World.cell?_alloc_past]; done) | (simp (disch := (first | (simp; done) | (simp; omega))) [World.frozen?_alloc_at]; done) | (simp (disch := (first | (simp; done) | (simp; omega))) [World.frozen?_alloc_past]; done) | (simp (disch := (first | (simp; done) | (simp; omega))) [World.frozen?_alloc_at, World.frozen?_alloc_past]; done))
  have f12_1 : w1.frozen? ⟨w.heap.size + 1, 2, none⟩ = false := by rw [e1]; (first | (simp; done) | (simp (disch := (first | (simp; done) | (simp; omega))) [World.cell?_alloc_at]; done) | (simp (disch := (first | (simp; done) | (simp; omega))) [World.cell?_alloc_past]; done) | (simp (disch := (first | (simp; done) | (simp; omega))) [World.cell?_alloc_at, World.cell?_alloc_past]; done) | (simp (disch := (first | (simp; done) | (simp; omega))) [World.frozen?_alloc_at]; done) | (simp (disch := (first | (simp; done) | (simp; omega))) [World.frozen?_alloc_past]; done) | (simp (disch := (first | (simp; done) | (simp; omega))) [World.frozen?_alloc_at, World.frozen?_alloc_past]; done))
  have f13_1 : w1.frozen? ⟨w.heap.size + 1, 3, none⟩ = false := by rw [e1]; (first | (simp; done) | (simp (disch := (first | (simp; done) | (simp; omega))) [World.cell?_alloc_at]; done) | (simp (disch := (first | (simp; done) | (simp; omega))) [World.cell?_alloc_past]; done) | (simp (disch := (first | (simp; done) | (simp; omega))) [World.cell?_alloc_at, World.cell?_alloc_past]; done) | (simp (disch := (first | (simp; done) | (simp; omega))) [World.frozen?_alloc_at]; done) | (simp (disch := (first | (simp; done) | (simp; omega))) [World.frozen?_alloc_past]; done) | (simp (disch := (first | (simp; done) | (simp; omega))) [World.frozen?_alloc_at, World.frozen?_alloc_past]; done))
  have f14_1 : w1.frozen? ⟨w.heap.size + 1, 4, none⟩ = false := by rw [e1]; (first | (simp; done) | (simp (disch := (first | (simp; done) | (simp; omega))) [World.cell?_alloc_at]; done) | (simp (disch := (first | (simp; done) | (simp; omega))) [World.cell?_alloc_past]; done) | (simp (disch := (first | (simp; done) | (simp; omega))) [World.cell?_alloc_at, World.cell?_alloc_past]; done) | (simp (disch := (first | (simp; done) | (simp; omega))) [World.frozen?_alloc_at]; done) | (simp (disch := (first | (simp; done) | (simp; omega))) [World.frozen?_alloc_past]; done) | (simp (disch := (first | (simp; done) | (simp; omega))) [World.frozen?_alloc_at, World.frozen?_alloc_past]; done))
  have f20_1 : w1.frozen? ⟨w.heap.size + 1 + 1, 0, none⟩ = false := by rw [e1]; (first | (simp; done) | (simp (disch := (first | (simp; done) | (simp; omega))) [World.cell?_alloc_at]; done) | (simp (disch := (first | (simp; done) | (simp; omega))) [World.cell?_alloc_past]; done) | (simp (disch := (first | (simp; done) | (simp; omega))) [World.cell?_alloc_at, World.cell?_alloc_past]; done) | (simp (disch := (first | (simp; done) | (simp; omega))) [World.frozen?_alloc_at]; done) | (simp (disch := (first | (simp; done) | (simp; omega))) [World.frozen?_alloc_past]; done) | (simp (disch := (first | (simp; done) | (simp; omega))) [World.frozen?_alloc_at, World.frozen?_alloc_past]; done))
  have f21_1 : w1.frozen? ⟨w.heap.size + 1 + 1, 1, none⟩ = false := by rw [e1]; (first | (simp; done) | (simp (disch := (first | (simp; done) | (simp; omega))) [World.cell?_alloc_at]; done) | (simp (disch := (first | (simp; done) | (simp; omega))) [World.cell?_alloc_past]; done) | (simp (disch := (first | (simp; done) | (simp; omega))) [World.cell?_alloc_at, World.cell?_alloc_past]; done) | (simp (disch := (first | (simp; done) | (simp; omega))) [World.frozen?_alloc_at]; done) | (simp (disch := (first | (simp; done) | (simp; omega))) [World.frozen?_alloc_past]; done) | (simp (disch := (first | (simp; done) | (simp; omega))) [World.frozen?_alloc_at, World.frozen?_alloc_past]; done))
  have f22_1 : w1.frozen? ⟨w.heap.size + 1 + 1, 2, none⟩ = false := by rw [e1]; (first | (simp; done) | (simp (disch := (first | (simp; done) | (simp; omega))) [World.cell?_alloc_at]; done) | (simp (disch := (first | (simp; done) | (simp; omega))) [World.cell?_alloc_past]; done) | (simp (disch := (first | (simp; done) | (simp; omega))) [World.cell?_alloc_at, World.cell?_alloc_past]; done) | (simp (disch := (first | (simp; done) | (simp; omega))) [World.frozen?_alloc_at]; done) | (simp (disch := (first | (simp; done) | (simp; omega))) [World.frozen?_alloc_past]; done) | (simp (disch := (first | (simp; done) | (simp; omega))) [World.frozen?_alloc_at, World.frozen?_alloc_past]; done))
  have f23_1 : w1.frozen? ⟨w.heap.size + 1 + 1, 3, none⟩ = false := by rw [e1]; (first | (simp; done) | (simp (disch := (first | (simp; done) | (simp; omega))) [World.cell?_alloc_at]; done) | (simp (disch := (first | (simp; done) | (simp; omega))) [World.cell?_alloc_past]; done) | (simp (disch := (first | (simp; done) | (simp; omega))) [World.cell?_alloc_at, World.cell?_alloc_past]; done) | (simp (disch := (first | (simp; done) | (simp; omega))) [World.frozen?_alloc_at]; done) | (simp (disch := (first | (simp; done) | (simp; omega))) [World.frozen?_alloc_past]; done) | (simp (disch := (first | (simp; done) | (simp; omega))) [World.frozen?_alloc_at, World.frozen?_alloc_past]; done))
  have f24_1 : w1.frozen? ⟨w.heap.size + 1 + 1, 4, none⟩ = false := by rw [e1]; (first | (simp; done) | (simp (disch := (first | (simp; done) | (simp; omega))) [World.cell?_alloc_at]; done) | (simp (disch := (first | (simp; done) | (simp; omega))) [World.cell?_alloc_past]; done) | (simp (disch := (first | (simp; done) | (simp; omega))) [World.cell?_alloc_at, World.cell?_alloc_past]; done) | (simp (disch := (first | (simp; done) | (simp; omega))) [World.frozen?_alloc_at]; done) | (simp (disch := (first | (simp; done) | (simp; omega))) [World.frozen?_alloc_past]; done) | (simp (disch := (first | (simp; done) | (simp; omega))) [World.frozen?_alloc_at, World.frozen?_alloc_past]; done))
  go_enter Tryd.func6, Tryd.ntmps6
  go_wp2_with fail
  rw [← e1]
  clear e1
  refine (toFloat32S_c w1 A0 n0 cap0 xs0 hl0 hn0 ((hx0.below B1).more B1.size)).mono ?_
  rintro e w2 ⟨v0, rfl, ho0, hb2⟩
  obtain ⟨S0, k0, rfl, hp0⟩ := ho0.opn
  rw [hl0] at hp0 ⊢
  clear ho0
  have z2 := hb2.size
  have B2 := B1.trans (hb2.mono B1.size)
  have c00_2 := (hb2.cell (p := ⟨w.heap.size, 0, none⟩) (by simp only []; omega)).trans c00_1
  have c01_2 := (hb2.cell (p := ⟨w.heap.size, 1, none⟩) (by simp only []; omega)).trans c01_1
  have c02_2 := (hb2.cell (p := ⟨w.heap.size, 2, none⟩) (by simp only []; omega)).trans c02_1
  have c03_2 := (hb2.cell (p := ⟨w.heap.size, 3, none⟩) (by simp only []; omega)).trans c03_1
  have c04_2 := (hb2.cell (p := ⟨w.heap.size, 4, none⟩) (by simp only []; omega)).trans c04_1
  have c10_2 := (hb2.cell (p := ⟨w.heap.size + 1, 0, none⟩) (by simp only []; omega)).trans c10_1
  have c11_2 := (hb2.cell (p := ⟨w.heap.size + 1, 1, none⟩) (by simp only []; omega)).trans c11_1
  have c12_2 := (hb2.cell (p := ⟨w.heap.size + 1, 2, none⟩) (by simp only []; omega)).trans c12_1
  have c13_2 := (hb2.cell (p := ⟨w.heap.size + 1, 3, none⟩) (by simp only []; omega)).trans c13_1
  have c14_2 := (hb2.cell (p := ⟨w.heap.size + 1, 4, none⟩) (by simp only []; omega)).trans c14_1
  have c20_2 := (hb2.cell (p := ⟨w.heap.size + 1 + 1, 0, none⟩) (by simp only []; omega)).trans c20_1
  have c21_2 := (hb2.cell (p := ⟨w.heap.size + 1 + 1, 1, none⟩) (by simp only []; omega)).trans c21_1
  have c22_2 := (hb2.cell (p := ⟨w.heap.size + 1 + 1, 2, none⟩) (by simp only []; omega)).trans c22_1
  have c23_2 := (hb2.cell (p := ⟨w.heap.size + 1 + 1, 3, none⟩) (by simp only []; omega)).trans c23_1
  have c24_2 := (hb2.cell (p := ⟨w.heap.size + 1 + 1, 4, none⟩) (by simp only []; omega)).trans c24_1
  have f10_2 := (hb2.frozen (p := ⟨w.heap.size + 1, 0, none⟩) (by simp only []; omega)).trans f10_1
  have f11_2 := (hb2.frozen (p := ⟨w.heap.size + 1, 1, none⟩) (by simp only []; omega)).trans f11_1
  have f12_2 := (hb2.frozen (p := ⟨w.heap.size + 1, 2, none⟩) (by simp only []; omega)).trans f12_1
  have f13_2 := (hb2.frozen (p := ⟨w.heap.size + 1, 3, none⟩) (by simp only []; omega)).trans f13_1
  have f14_2 := (hb2.frozen (p := ⟨w.heap.size + 1, 4, none⟩) (by simp only []; omega)).trans f14_1
  have f20_2 := (hb2.frozen (p := ⟨w.heap.size + 1 + 1, 0, none⟩) (by simp only []; omega)).trans f20_1
  have f21_2 := (hb2.frozen (p := ⟨w.heap.size + 1 + 1, 1, none⟩) (by simp only []; omega)).trans f21_1
  have f22_2 := (hb2.frozen (p := ⟨w.heap.size + 1 + 1, 2, none⟩) (by simp only []; omega)).trans f22_1
  have f23_2 := (hb2.frozen (p := ⟨w.heap.size + 1 + 1, 3, none⟩) (by simp only []; omega)).trans f23_1
  have f24_2 := (hb2.frozen (p := ⟨w.heap.size + 1 + 1, 4, none⟩) (by simp only []; omega)).trans f24_1
  clear c00_1 c01_1 c02_1 c03_1 c04_1 c10_1 c11_1 c12_1 c13_1 c14_1 c20_1 c21_1 c22_1 c23_1 c24_1 f10_1 f11_1 f12_1 f13_1 f14_1 f20_1 f21_1 f22_1 f23_1 f24_1
  go_wp2_with fail
  obtain ⟨w3, e3⟩ : ∃ q : World, q = w2.setCell ⟨w.heap.size + 1 + 1, 0, none⟩ (.slice S0 n0 k0) := ⟨_, rfl⟩
  rw [← e3]
  have c00_3 : w3.cell? ⟨w.heap.size, 0, none⟩ = some (.slice A0 n0 cap0) := by rw [e3, World.cell?_setCell_other _ _ _ _ (by intro h; injection h with h1 h2; omega)]; exact c00_2
  have c01_3 : w3.cell? ⟨w.heap.size, 1, none⟩ = some (.slice A1 n1 cap1) := by rw [e3, World.cell?_setCell_other _ _ _ _ (by intro h; injection h with h1 h2; omega)]; exact c01_2
  have c02_3 : w3.cell? ⟨w.heap.size, 2, none⟩ = some (.int .i64 a2) := by rw [e3, World.cell?_setCell_other _ _ _ _ (by intro h; injection h with h1 h2; omega)]; exact c02_2
  have c03_3 : w3.cell? ⟨w.heap.size, 3, none⟩ = some (.slice A3 n3 cap3) := by rw [e3, World.cell?_setCell_other _ _ _ _ (by intro h; injection h with h1 h2; omega)]; exact c03_2
  have c04_3 : w3.cell? ⟨w.heap.size, 4, none⟩ = some (.string a4) := by rw [e3, World.cell?_setCell_other _ _ _ _ (by intro h; injection h with h1 h2; omega)]; exact c04_2
  have c10_3 : w3.cell? ⟨w.heap.size + 1, 0, none⟩ = some (.slice none 0 0) := by rw [e3, World.cell?_setCell_other _ _ _ _ (by intro h; injection h with h1 h2; omega)]; exact c10_2
  have c11_3 : w3.cell? ⟨w.heap.size + 1, 1, none⟩ = some (.slice none 0 0) := by rw [e3, World.cell?_setCell_other _ _ _ _ (by intro h; injection h with h1 h2; omega)]; exact c11_2
  have c12_3 : w3.cell? ⟨w.heap.size + 1, 2, none⟩ = some (.int .i64 0) := by rw [e3, World.cell?_setCell_other _ _ _ _ (by intro h; injection h with h1 h2; omega)]; exact c12_2
  have c13_3 : w3.cell? ⟨w.heap.size + 1, 3, none⟩ = some (.slice none 0 0) := by rw [e3, World.cell?_setCell_other _ _ _ _ (by intro h; injection h with h1 h2; omega)]; exact c13_2
  have c14_3 : w3.cell? ⟨w.heap.size + 1, 4, none⟩ = some (.string ⟨#[]⟩) := by rw [e3, World.cell?_setCell_other _ _ _ _ (by intro h; injection h with h1 h2; omega)]; exact c14_2
  have c20_3 : w3.cell? ⟨w.heap.size + 1 + 1, 0, none⟩ = some (.slice S0 n0 k0) := by rw [e3]; exact World.cell?_setCell_same _ _ _ c20_2
  have c21_3 : w3.cell? ⟨w.heap.size + 1 + 1, 1, none⟩ = some (.slice none 0 0) := by rw [e3, World.cell?_setCell_other _ _ _ _ (by intro h; injection h with h1 h2; omega)]; exact c21_2
  have c22_3 : w3.cell? ⟨w.heap.size + 1 + 1, 2, none⟩ = some (.int .i64 0) := by rw [e3, World.cell?_setCell_other _ _ _ _ (by intro h; injection h with h1 h2; omega)]; exact c22_2
  have c23_3 : w3.cell? ⟨w.heap.size + 1 + 1, 3, none⟩ = some (.slice none 0 0) := by rw [e3, World.cell?_setCell_other _ _ _ _ (by intro h; injection h with h1 h2; omega)]; exact c23_2
  have c24_3 : w3.cell? ⟨w.heap.size + 1 + 1, 4, none⟩ = some (.string ⟨#[]⟩) := by rw [e3, World.cell?_setCell_other _ _ _ _ (by intro h; injection h with h1 h2; omega)]; exact c24_2
  have f10_3 : w3.frozen? ⟨w.heap.size + 1, 0, none⟩ = false := by rw [e3, frozen_set]; exact f10_2
  have f11_3 : w3.frozen? ⟨w.heap.size + 1, 1, none⟩ = false := by rw [e3, frozen_set]; exact f11_2
  have f12_3 : w3.frozen? ⟨w.heap.size + 1, 2, none⟩ = false := by rw [e3, frozen_set]; exact f12_2
  have f13_3 : w3.frozen? ⟨w.heap.size + 1, 3, none⟩ = false := by rw [e3, frozen_set]; exact f13_2
  have f14_3 : w3.frozen? ⟨w.heap.size + 1, 4, none⟩ = false := by rw [e3, frozen_set]; exact f14_2
  have f20_3 : w3.frozen? ⟨w.heap.size + 1 + 1, 0, none⟩ = false := by rw [e3, frozen_set]; exact f20_2
  have f21_3 : w3.frozen? ⟨w.heap.size + 1 + 1, 1, none⟩ = false := by rw [e3, frozen_set]; exact f21_2
  have f22_3 : w3.frozen? ⟨w.heap.size + 1 + 1, 2, none⟩ = false := by rw [e3, frozen_set]; exact f22_2
  have f23_3 : w3.frozen? ⟨w.heap.size + 1 + 1, 3, none⟩ = false := by rw [e3, frozen_set]; exact f23_2
  have f24_3 : w3.frozen? ⟨w.heap.size + 1 + 1, 4, none⟩ = false := by rw [e3, frozen_set]; exact f24_2
  have hp0 := ownsRow_setCell_below hp0 (a := ⟨w.heap.size + 1 + 1, 0, none⟩) (by simp only []; omega) (.slice S0 n0 k0)
  rw [← e3] at hp0
  have B3 : Below w.heap.size w w3 := by rw [e3]; exact B2.setCell (p := ⟨w.heap.size + 1 + 1, 0, none⟩) (by simp only []; omega) _
  have z3 : w3.heap.size = w2.heap.size := by rw [e3]; simp
  clear e3 c00_2 c01_2 c02_2 c03_2 c04_2 c10_2 c11_2 c12_2 c13_2 c14_2 c20_2 c21_2 c22_2 c23_2 c24_2 f10_2 f11_2 f12_2 f13_2 f14_2 f20_2 f21_2 f22_2 f23_2 f24_2
  refine (toCode_c w3 A1 n1 cap1 xs1 hl1 hn1 ((hx1.below B3).more B3.size)).mono ?_
  rintro e w4 ⟨v1, rfl, ho1, hb4⟩
  obtain ⟨S1, k1, rfl, hp1⟩ := ho1.opn
  rw [hl1] at hp1 ⊢
  clear ho1
  have z4 := hb4.size
  have B4 := B3.trans (hb4.mono B3.size)
  have c00_4 := (hb4.cell (p := ⟨w.heap.size, 0, none⟩) (by simp only []; omega)).trans c00_3
  have c01_4 := (hb4.cell (p := ⟨w.heap.size, 1, none⟩) (by simp only []; omega)).trans c01_3
  have c02_4 := (hb4.cell (p := ⟨w.heap.size, 2, none⟩) (by simp only []; omega)).trans c02_3
  have c03_4 := (hb4.cell (p := ⟨w.heap.size, 3, none⟩) (by simp only []; omega)).trans c03_3
  have c04_4 := (hb4.cell (p := ⟨w.heap.size, 4, none⟩) (by simp only []; omega)).trans c04_3
  have c10_4 := (hb4.cell (p := ⟨w.heap.size + 1, 0, none⟩) (by simp only []; omega)).trans c10_3
  have c11_4 := (hb4.cell (p := ⟨w.heap.size + 1, 1, none⟩) (by simp only []; omega)).trans c11_3
  have c12_4 := (hb4.cell (p := ⟨w.heap.size + 1, 2, none⟩) (by simp only []; omega)).trans c12_3
  have c13_4 := (hb4.cell (p := ⟨w.heap.size + 1, 3, none⟩) (by simp only []; omega)).trans c13_3
  have c14_4 := (hb4.cell (p := ⟨w.heap.size + 1, 4, none⟩) (by simp only []; omega)).trans c14_3
  have c20_4 := (hb4.cell (p := ⟨w.heap.size + 1 + 1, 0, none⟩) (by simp only []; omega)).trans c20_3
  have c21_4 := (hb4.cell (p := ⟨w.heap.size + 1 + 1, 1, none⟩) (by simp only []; omega)).trans c21_3
  have c22_4 := (hb4.cell (p := ⟨w.heap.size + 1 + 1, 2, none⟩) (by simp only []; omega)).trans c22_3
  have c23_4 := (hb4.cell (p := ⟨w.heap.size + 1 + 1, 3, none⟩) (by simp only []; omega)).trans c23_3
  have c24_4 := (hb4.cell (p := ⟨w.heap.size + 1 + 1, 4, none⟩) (by simp only []; omega)).trans c24_3
  have f10_4 := (hb4.frozen (p := ⟨w.heap.size + 1, 0, none⟩) (by simp only []; omega)).trans f10_3
  have f11_4 := (hb4.frozen (p := ⟨w.heap.size + 1, 1, none⟩) (by simp only []; omega)).trans f11_3
  have f12_4 := (hb4.frozen (p := ⟨w.heap.size + 1, 2, none⟩) (by simp only []; omega)).trans f12_3
  have f13_4 := (hb4.frozen (p := ⟨w.heap.size + 1, 3, none⟩) (by simp only []; omega)).trans f13_3
  have f14_4 := (hb4.frozen (p := ⟨w.heap.size + 1, 4, none⟩) (by simp only []; omega)).trans f14_3
  have f20_4 := (hb4.frozen (p := ⟨w.heap.size + 1 + 1, 0, none⟩) (by simp only []; omega)).trans f20_3
  have f21_4 := (hb4.frozen (p := ⟨w.heap.size + 1 + 1, 1, none⟩) (by simp only []; omega)).trans f21_3
  have f22_4 := (hb4.frozen (p := ⟨w.heap.size + 1 + 1, 2, none⟩) (by simp only []; omega)).trans f22_3
  have f23_4 := (hb4.frozen (p := ⟨w.heap.size + 1 + 1, 3, none⟩) (by simp only []; omega)).trans f23_3
  have f24_4 := (hb4.frozen (p := ⟨w.heap.size + 1 + 1, 4, none⟩) (by simp only []; omega)).trans f24_3
  clear c00_3 c01_3 c02_3 c03_3 c04_3 c10_3 c11_3 c12_3 c13_3 c14_3 c20_3 c21_3 c22_3 c23_3 c24_3 f10_3 f11_3 f12_3 f13_3 f14_3 f20_3 f21_3 f22_3 f23_3 f24_3
  have hp0 := own_below hp0 hb4 (Nat.le_refl _)
  go_wp2_with fail
  obtain ⟨w5, e5⟩ : ∃ q : World, q = w4.setCell ⟨w.heap.size + 1 + 1, 1, none⟩ (.slice S1 n1 k1) := ⟨_, rfl⟩
  rw [← e5]
  have c00_5 : w5.cell? ⟨w.heap.size, 0, none⟩ = some (.slice A0 n0 cap0) := by rw [e5, World.cell?_setCell_other _ _ _ _ (by intro h; injection h with h1 h2; omega)]; exact c00_4
  have c01_5 : w5.cell? ⟨w.heap.size, 1, none⟩ = some (.slice A1 n1 cap1) := by rw [e5, World.cell?_setCell_other _ _ _ _ (by intro h; injection h with h1 h2; omega)]; exact c01_4
  have c02_5 : w5.cell? ⟨w.heap.size, 2, none⟩ = some (.int .i64 a2) := by rw [e5, World.cell?_setCell_other _ _ _ _ (by intro h; injection h with h1 h2; omega)]; exact c02_4
  have c03_5 : w5.cell? ⟨w.heap.size, 3, none⟩ = some (.slice A3 n3 cap3) := by rw [e5, World.cell?_setCell_other _ _ _ _ (by intro h; injection h with h1 h2; omega)]; exact c03_4
  have c04_5 : w5.cell? ⟨w.heap.size, 4, none⟩ = some (.string a4) := by rw [e5, World.cell?_setCell_other _ _ _ _ (by intro h; injection h with h1 h2; omega)]; exact c04_4
  have c10_5 : w5.cell? ⟨w.heap.size + 1, 0, none⟩ = some (.slice none 0 0) := by rw [e5, World.cell?_setCell_other _ _ _ _ (by intro h; injection h with h1 h2; omega)]; exact c10_4
  have c11_5 : w5.cell? ⟨w.heap.size + 1, 1, none⟩ = some (.slice none 0 0) := by rw [e5, World.cell?_setCell_other _ _ _ _ (by intro h; injection h with h1 h2; omega)]; exact c11_4
  have c12_5 : w5.cell? ⟨w.heap.size + 1, 2, none⟩ = some (.int .i64 0) := by rw [e5, World.cell?_setCell_other _ _ _ _ (by intro h; injection h with h1 h2; omega)]; exact c12_4
  have c13_5 : w5.cell? ⟨w.heap.size + 1, 3, none⟩ = some (.slice none 0 0) := by rw [e5, World.cell?_setCell_other _ _ _ _ (by intro h; injection h with h1 h2; omega)]; exact c13_4
  have c14_5 : w5.cell? ⟨w.heap.size + 1, 4, none⟩ = some (.string ⟨#[]⟩) := by rw [e5, World.cell?_setCell_other _ _ _ _ (by intro h; injection h with h1 h2; omega)]; exact c14_4
  have c20_5 : w5.cell? ⟨w.heap.size + 1 + 1, 0, none⟩ = some (.slice S0 n0 k0) := by rw [e5, World.cell?_setCell_other _ _ _ _ (by intro h; injection h with h1 h2; omega)]; exact c20_4
  have c21_5 : w5.cell? ⟨w.heap.size + 1 + 1, 1, none⟩ = some (.slice S1 n1 k1) := by rw [e5]; exact World.cell?_setCell_same _ _ _ c21_4
  have c22_5 : w5.cell? ⟨w.heap.size + 1 + 1, 2, none⟩ = some (.int .i64 0) := by rw [e5, World.cell?_setCell_other _ _ _ _ (by intro h; injection h with h1 h2; omega)]; exact c22_4
  have c23_5 : w5.cell? ⟨w.heap.size + 1 + 1, 3, none⟩ = some (.slice none 0 0) := by rw [e5, World.cell?_setCell_other _ _ _ _ (by intro h; injection h with h1 h2; omega)]; exact c23_4
  have c24_5 : w5.cell? ⟨w.heap.size + 1 + 1, 4, none⟩ = some (.string ⟨#[]⟩) := by rw [e5, World.cell?_setCell_other _ _ _ _ (by intro h; injection h with h1 h2; omega)]; exact c24_4
  have f10_5 : w5.frozen? ⟨w.heap.size + 1, 0, none⟩ = false := by rw [e5, frozen_set]; exact f10_4
  have f11_5 : w5.frozen? ⟨w.heap.size + 1, 1, none⟩ = false := by rw [e5, frozen_set]; exact f11_4
  have f12_5 : w5.frozen? ⟨w.heap.size + 1, 2, none⟩ = false := by rw [e5, frozen_set]; exact f12_4
  have f13_5 : w5.frozen? ⟨w.heap.size + 1, 3, none⟩ = false := by rw [e5, frozen_set]; exact f13_4
  have f14_5 : w5.frozen? ⟨w.heap.size + 1, 4, none⟩ = false := by rw [e5, frozen_set]; exact f14_4
  have f20_5 : w5.frozen? ⟨w.heap.size + 1 + 1, 0, none⟩ = false := by rw [e5, frozen_set]; exact f20_4
  have f21_5 : w5.frozen? ⟨w.heap.size + 1 + 1, 1, none⟩ = false := by rw [e5, frozen_set]; exact f21_4
  have f22_5 : w5.frozen? ⟨w.heap.size + 1 + 1, 2, none⟩ = false := by rw [e5, frozen_set]; exact f22_4
  have f23_5 : w5.frozen? ⟨w.heap.size + 1 + 1, 3, none⟩ = false := by rw [e5, frozen_set]; exact f23_4
  have f24_5 : w5.frozen? ⟨w.heap.size + 1 + 1, 4, none⟩ = false := by rw [e5, frozen_set]; exact f24_4
  have hp0 := ownsRow_setCell_below hp0 (a := ⟨w.heap.size + 1 + 1, 1, none⟩) (by simp only []; omega) (.slice S1 n1 k1)
  rw [← e5] at hp0
  have hp1 := ownsRow_setCell_below hp1 (a := ⟨w.heap.size + 1 + 1, 1, none⟩) (by simp only []; omega) (.slice S1 n1 k1)
  rw [← e5] at hp1
  have B5 : Below w.heap.size w w5 := by rw [e5]; exact B4.setCell (p := ⟨w.heap.size + 1 + 1, 1, none⟩) (by simp only []; omega) _
  have z5 : w5.heap.size = w4.heap.size := by rw [e5]; simp
  clear e5 c00_4 c01_4 c02_4 c03_4 c04_4 c10_4 c11_4 c12_4 c13_4 c14_4 c20_4 c21_4 c22_4 c23_4 c24_4 f10_4 f11_4 f12_4 f13_4 f14_4 f20_4 f21_4 f22_4 f23_4 f24_4
  refine (toParity_c w5 a2 A3 n3 cap3 xs3 hl3 hn3 ((hx3.below B5).more B5.size)).mono ?_
  rintro e w6 ⟨v3, rfl, ho3, hb6⟩
  obtain ⟨S3, k3, rfl, hp3⟩ := ho3.opn
  rw [hl3] at hp3 ⊢
  clear ho3
  have z6 := hb6.size
  have B6 := B5.trans (hb6.mono B5.size)
  have c00_6 := (hb6.cell (p := ⟨w.heap.size, 0, none⟩) (by simp only []; omega)).trans c00_5
  have c01_6 := (hb6.cell (p := ⟨w.heap.size, 1, none⟩) (by simp only []; omega)).trans c01_5
  have c02_6 := (hb6.cell (p := ⟨w.heap.size, 2, none⟩) (by simp only []; omega)).trans c02_5
  have c03_6 := (hb6.cell (p := ⟨w.heap.size, 3, none⟩) (by simp only []; omega)).trans c03_5
  have c04_6 := (hb6.cell (p := ⟨w.heap.size, 4, none⟩) (by simp only []; omega)).trans c04_5
  have c10_6 := (hb6.cell (p := ⟨w.heap.size + 1, 0, none⟩) (by simp only []; omega)).trans c10_5
  have c11_6 := (hb6.cell (p := ⟨w.heap.size + 1, 1, none⟩) (by simp only []; omega)).trans c11_5
  have c12_6 := (hb6.cell (p := ⟨w.heap.size + 1, 2, none⟩) (by simp only []; omega)).trans c12_5
  have c13_6 := (hb6.cell (p := ⟨w.heap.size + 1, 3, none⟩) (by simp only []; omega)).trans c13_5
  have c14_6 := (hb6.cell (p := ⟨w.heap.size + 1, 4, none⟩) (by simp only []; omega)).trans c14_5
  have c20_6 := (hb6.cell (p := ⟨w.heap.size + 1 + 1, 0, none⟩) (by simp only []; omega)).trans c20_5
  have c21_6 := (hb6.cell (p := ⟨w.heap.size + 1 + 1, 1, none⟩) (by simp only []; omega)).trans c21_5
  have c22_6 := (hb6.cell (p := ⟨w.heap.size + 1 + 1, 2, none⟩) (by simp only []; omega)).trans c22_5
  have c23_6 := (hb6.cell (p := ⟨w.heap.size + 1 + 1, 3, none⟩) (by simp only []; omega)).trans c23_5
  have c24_6 := (hb6.cell (p := ⟨w.heap.size + 1 + 1, 4, none⟩) (by simp only []; omega)).trans c24_5
  have f10_6 := (hb6.frozen (p := ⟨w.heap.size + 1, 0, none⟩) (by simp only []; omega)).trans f10_5
  have f11_6 := (hb6.frozen (p := ⟨w.heap.size + 1, 1, none⟩) (by simp only []; omega)).trans f11_5
  have f12_6 := (hb6.frozen (p := ⟨w.heap.size + 1, 2, none⟩) (by simp only []; omega)).trans f12_5
  have f13_6 := (hb6.frozen (p := ⟨w.heap.size + 1, 3, none⟩) (by simp only []; omega)).trans f13_5
  have f14_6 := (hb6.frozen (p := ⟨w.heap.size + 1, 4, none⟩) (by simp only []; omega)).trans f14_5
  have f20_6 := (hb6.frozen (p := ⟨w.heap.size + 1 + 1, 0, none⟩) (by simp only []; omega)).trans f20_5
  have f21_6 := (hb6.frozen (p := ⟨w.heap.size + 1 + 1, 1, none⟩) (by simp only []; omega)).trans f21_5
  have f22_6 := (hb6.frozen (p := ⟨w.heap.size + 1 + 1, 2, none⟩) (by simp only []; omega)).trans f22_5
  have f23_6 := (hb6.frozen (p := ⟨w.heap.size + 1 + 1, 3, none⟩) (by simp only []; omega)).trans f23_5
  have f24_6 := (hb6.frozen (p := ⟨w.heap.size + 1 + 1, 4, none⟩) (by simp only []; omega)).trans f24_5
  clear c00_5 c01_5 c02_5 c03_5 c04_5 c10_5 c11_5 c12_5 c13_5 c14_5 c20_5 c21_5 c22_5 c23_5 c24_5 f10_5 f11_5 f12_5 f13_5 f14_5 f20_5 f21_5 f22_5 f23_5 f24_5
  have hp0 := own_below hp0 hb6 (Nat.le_refl _)
  have hp1 := own_below hp1 hb6 (Nat.le_refl _)
  go_wp2
  refine bodyPost_ret (v := .agg #[.slice S0 n0 k0, .slice S1 n1 k1, .int .i64 a2, .slice S3 n3 k3, .string a4]) (by unfold results; rw [Tryd.results6]; go_simp) rfl ?_
  refine ⟨_, _, _, rfl, ?_, ?_, ?_, ?_⟩
  · unfold Ow
    rw [List.length_map, hl0]
    refine own_base (base := w1.heap.size) ?_ (by omega)
    iterate 8 (refine ownsRow_setCell_below ?_ (by simp; omega) _)
    exact hp0
  · unfold Ow
    rw [List.length_map, hl1]
    refine own_base (base := w3.heap.size) ?_ (by omega)
    iterate 8 (refine ownsRow_setCell_below ?_ (by simp; omega) _)
    exact hp1
  · unfold Ow
    rw [List.length_map, hl3]
    refine own_base (base := w5.heap.size) ?_ (by omega)
    iterate 8 (refine ownsRow_setCell_below ?_ (by simp; omega) _)
    exact hp3
  · iterate 8 (refine Below.setCell ?_ (by simp <;> omega) _)
    exact B6


set_option maxRecDepth 100000 in
set_option maxHeartbeats 1000000 in
theorem szDesk_c (w : World) (A0 : Option Addr) (n0 cap0 : Nat) (A1 : Option Addr) (n1 cap1 : Nat) (a2 : Int) (A3 : Option Addr) (n3 cap3 : Nat) (a4 : ByteArray) (left : Int) (h0 : 0 ≤ left) (h1 : left ≤ 1048576) (hn0 : n0 ≤ 9223372036854775807) (hn1 : n1 ≤ 9223372036854775807) (hn3 : n3 ≤ 9223372036854775807) (hs4 : a4.size ≤ 9223372036854775807) :
    Calls Tryd.prog 4 #[.agg #[.slice A0 n0 cap0, .slice A1 n1 cap1, .int .i64 a2, .slice A3 n3 cap3, .string a4], .int .i64 left] w fun e w' => ∃ q : Int, e = .returned (.int .i64 q) ∧ (q = -1 ∨ (0 ≤ q ∧ q ≤ 1048576 ∧ n0 ≤ 1048576 ∧ n1 ≤ 1048576 ∧ n3 ≤ 1048576 ∧ a4.size ≤ 1048576)) ∧ Below w.heap.size w w' := by
  obtain ⟨w1, e1⟩ : ∃ q : World, q = w.alloc (.cells #[.slice A0 n0 cap0, .slice A1 n1 cap1, .int .i64 a2, .slice A3 n3 cap3, .string a4] 29) := ⟨_, rfl⟩
  have B1 : Below w.heap.size w w1 := by rw [e1]; exact (Below.refl _ _).alloc (Nat.le_refl _) _
  have z1 : w.heap.size < w1.heap.size := by rw [e1]; simp
  have c0_1 : w1.cell? ⟨w.heap.size, 0, none⟩ = some (.slice A0 n0 cap0) := by rw [e1]; (first | (simp; done) | (simp (disch := (first | (simp; done) | (simp; omega))) [World.cell?_alloc_at]; done) | (simp (disch := (first | (simp; done) | (simp; omega))) [World.cell?_alloc_past]; done) | (simp (disch := (first | (simp; done) | (simp; omega))) [World.cell?_alloc_at, World.cell?_alloc_past]; done) | (simp (disch := (first | (simp; done) | (simp; omega))) [World.frozen?_alloc_at]; done) | (simp (disch := (first | (simp; done) | (simp; omega))) [World.frozen?_alloc_past]; done) | (simp (disch := (first | (simp; done) | (simp; omega))) [World.frozen?_alloc_at, World.frozen?_alloc_past]; done))
  have c1_1 : w1.cell? ⟨w.heap.size, 1, none⟩ = some (.slice A1 n1 cap1) := by rw [e1]; (first | (simp; done) | (simp (disch := (first | (simp; done) | (simp; omega))) [World.cell?_alloc_at]; done) | (simp (disch := (first | (simp; done) | (simp; omega))) [World.cell?_alloc_past]; done) | (simp (disch := (first | (simp; done) | (simp; omega))) [World.cell?_alloc_at, World.cell?_alloc_past]; done) | (simp (disch := (first | (simp; done) | (simp; omega))) [World.frozen?_alloc_at]; done) | (simp (disch := (first | (simp; done) | (simp; omega))) [World.frozen?_alloc_past]; done) | (simp (disch := (first | (simp; done) | (simp; omega))) [World.frozen?_alloc_at, World.frozen?_alloc_past]; done))
  have c2_1 : w1.cell? ⟨w.heap.size, 2, none⟩ = some (.int .i64 a2) := by rw [e1]; (first | (simp; done) | (simp (disch := (first | (simp; done) | (simp; omega))) [World.cell?_alloc_at]; done) | (simp (disch := (first | (simp; done) | (simp; omega))) [World.cell?_alloc_past]; done) | (simp (disch := (first | (simp; done) | (simp; omega))) [World.cell?_alloc_at, World.cell?_alloc_past]; done) | (simp (disch := (first | (simp; done) | (simp; omega))) [World.frozen?_alloc_at]; done) | (simp (disch := (first | (simp; done) | (simp; omega))) [World.frozen?_alloc_past]; done) | (simp (disch := (first | (simp; done) | (simp; omega))) [World.frozen?_alloc_at, World.frozen?_alloc_past]; done))
  have c3_1 : w1.cell? ⟨w.heap.size, 3, none⟩ = some (.slice A3 n3 cap3) := by rw [e1]; (first | (simp; done) | (simp (disch := (first | (simp; done) | (simp; omega))) [World.cell?_alloc_at]; done) | (simp (disch := (first | (simp; done) | (simp; omega))) [World.cell?_alloc_past]; done) | (simp (disch := (first | (simp; done) | (simp; omega))) [World.cell?_alloc_at, World.cell?_alloc_past]; done) | (simp (disch := (first | (simp; done) | (simp; omega))) [World.frozen?_alloc_at]; done) | (simp (disch := (first | (simp; done) | (simp; omega))) [World.frozen?_alloc_past]; done) | (simp (disch := (first | (simp; done) | (simp; omega))) [World.frozen?_alloc_at, World.frozen?_alloc_past]; done))
  have c4_1 : w1.cell? ⟨w.heap.size, 4, none⟩ = some (.string a4) := by rw [e1]; (first | (simp; done) | (simp (disch := (first | (simp; done) | (simp; omega))) [World.cell?_alloc_at]; done) | (simp (disch := (first | (simp; done) | (simp; omega))) [World.cell?_alloc_past]; done) | (simp (disch := (first | (simp; done) | (simp; omega))) [World.cell?_alloc_at, World.cell?_alloc_past]; done) | (simp (disch := (first | (simp; done) | (simp; omega))) [World.frozen?_alloc_at]; done) | (simp (disch := (first | (simp; done) | (simp; omega))) [World.frozen?_alloc_past]; done) | (simp (disch := (first | (simp; done) | (simp; omega))) [World.frozen?_alloc_at, World.frozen?_alloc_past]; done))
  go_enter Tryd.func4, Tryd.ntmps4
  go_wp2_with fail
  rw [← e1]
  clear e1
  refine (szFloat32S_c w1 A0 n0 cap0 left h0 h1 hn0).mono ?_
  rintro e w' ⟨rfl, rfl⟩
  have s0 := szr_bd h0 h1 n0
  obtain ⟨l0, hl0⟩ : ∃ l : Int, szr left n0 = l := ⟨_, rfl⟩
  rw [hl0] at s0 ⊢
  clear hl0
  rcases s0 with ⟨s0, rfl⟩ | ⟨s0, t0, u0⟩
  · go_wp2
    go_ret
    exact ⟨_, rfl, .inl rfl, B1⟩
  go_wp2_with fail
  refine (szCode_c w1 A1 n1 cap1 l0 s0 t0 hn1).mono ?_
  rintro e w2 ⟨rfl, hb2⟩
  have B2 := B1.trans (hb2.mono B1.size)
  have z2 := hb2.size
  have c0_2 := (hb2.cell (p := ⟨w.heap.size, 0, none⟩) (by simp only []; omega)).trans c0_1
  have c1_2 := (hb2.cell (p := ⟨w.heap.size, 1, none⟩) (by simp only []; omega)).trans c1_1
  have c2_2 := (hb2.cell (p := ⟨w.heap.size, 2, none⟩) (by simp only []; omega)).trans c2_1
  have c3_2 := (hb2.cell (p := ⟨w.heap.size, 3, none⟩) (by simp only []; omega)).trans c3_1
  have c4_2 := (hb2.cell (p := ⟨w.heap.size, 4, none⟩) (by simp only []; omega)).trans c4_1
  clear c0_1 c1_1 c2_1 c3_1 c4_1
  have s1 := szr_bd s0 t0 n1
  obtain ⟨l1, hl1⟩ : ∃ l : Int, szr l0 n1 = l := ⟨_, rfl⟩
  rw [hl1] at s1 ⊢
  clear hl1
  rcases s1 with ⟨s1, rfl⟩ | ⟨s1, t1, u1⟩
  · go_wp2
    go_ret
    exact ⟨_, rfl, .inl rfl, B2⟩
  go_wp2_with fail
  refine (szParity_c w2 a2 A3 n3 cap3 l1 s1 t1 hn3).mono ?_
  rintro e w3 ⟨rfl, hb3⟩
  have B3 := B2.trans (hb3.mono B2.size)
  have c0_3 := (hb3.cell (p := ⟨w.heap.size, 0, none⟩) (by simp only []; omega)).trans c0_2
  have c1_3 := (hb3.cell (p := ⟨w.heap.size, 1, none⟩) (by simp only []; omega)).trans c1_2
  have c2_3 := (hb3.cell (p := ⟨w.heap.size, 2, none⟩) (by simp only []; omega)).trans c2_2
  have c3_3 := (hb3.cell (p := ⟨w.heap.size, 3, none⟩) (by simp only []; omega)).trans c3_2
  have c4_3 := (hb3.cell (p := ⟨w.heap.size, 4, none⟩) (by simp only []; omega)).trans c4_2
  clear c0_2 c1_2 c2_2 c3_2 c4_2
  have s3 := szr_bd s1 t1 n3
  obtain ⟨l3, hl3⟩ : ∃ l : Int, szr l1 n3 = l := ⟨_, rfl⟩
  rw [hl3] at s3 ⊢
  clear hl3
  rcases s3 with ⟨s3, rfl⟩ | ⟨s3, t3, u3⟩
  · go_wp2
    go_ret
    exact ⟨_, rfl, .inl rfl, B3⟩
  by_cases hneg : l3 - (a4.size : Int) < 0
  · go_wp2
    go_ret
    exact ⟨_, rfl, .inl rfl, B3⟩
  · go_wp2
    go_ret
    exact ⟨_, rfl, .inr ⟨by omega, by omega, by omega, by omega, by omega, by omega⟩, B3⟩


set_option maxRecDepth 100000 in
set_option maxHeartbeats 1000000 in
theorem eqDesk_t (w : World) (A0 A0r : Option Addr) (n0 cap0 cap0r : Nat) (xs0 : List Nat) (hl0 : xs0.length = n0) (hn0 : n0 ≤ 1099511627776) (hx0 : Sl w w.heap.size A0 (xs0.map (Value.float .f32))) (hy0 : Sl w w.heap.size A0r (xs0.map (Value.float .f32))) (A1 A1r : Option Addr) (n1 cap1 cap1r : Nat) (xs1 : List Int) (hl1 : xs1.length = n1) (hn1 : n1 ≤ 1099511627776) (hx1 : Sl w w.heap.size A1 (xs1.map (Value.int .i64))) (hy1 : Sl w w.heap.size A1r (xs1.map (Value.int .i64))) (a2 : Int) (A3 A3r : Option Addr) (n3 cap3 cap3r : Nat) (xs3 : List Int) (hl3 : xs3.length = n3) (hn3 : n3 ≤ 1099511627776) (hx3 : Sl w w.heap.size A3 (xs3.map (Value.int .i64))) (hy3 : Sl w w.heap.size A3r (xs3.map (Value.int .i64))) (a4 : ByteArray) :
    Calls Tryd.prog 8 #[.agg #[.slice A0 n0 cap0, .slice A1 n1 cap1, .int .i64 a2, .slice A3 n3 cap3, .string a4], .agg #[.slice A0r n0 cap0r, .slice A1r n1 cap1r, .int .i64 a2, .slice A3r n3 cap3r, .string a4]] w fun e w' => e = .returned (.bool true) ∧ Below w.heap.size w w' := by
  obtain ⟨w1, e1⟩ : ∃ q : World, q = (w.alloc (.cells #[.slice A0 n0 cap0, .slice A1 n1 cap1, .int .i64 a2, .slice A3 n3 cap3, .string a4] 35)).alloc (.cells #[.slice A0r n0 cap0r, .slice A1r n1 cap1r, .int .i64 a2, .slice A3r n3 cap3r, .string a4] 35) := ⟨_, rfl⟩
  have B1 : Below w.heap.size w w1 := by rw [e1]; exact ((Below.refl _ _).alloc (Nat.le_refl _) _).alloc (by simp) _
  have z1 : w1.heap.size = w.heap.size + 1 + 1 := by rw [e1]; simp
  have c0_1 : w1.cell? ⟨w.heap.size, 0, none⟩ = some (.slice A0 n0 cap0) := by rw [e1]; (first | (simp; done) | (simp (disch := (first | (simp; done) | (simp; omega))) [World.cell?_alloc_at]; done) | (simp (disch := (first | (simp; done) | (simp; omega))) [World.cell?_alloc_past]; done) | (simp (disch := (first | (simp; done) | (simp; omega))) [World.cell?_alloc_at, World.cell?_alloc_past]; done) | (simp (disch := (first | (simp; done) | (simp; omega))) [World.frozen?_alloc_at]; done) | (simp (disch := (first | (simp; done) | (simp; omega))) [World.frozen?_alloc_past]; done) | (simp (disch := (first | (simp; done) | (simp; omega))) [World.frozen?_alloc_at, World.frozen?_alloc_past]; done))
  have d0_1 : w1.cell? ⟨w.heap.size + 1, 0, none⟩ = some (.slice A0r n0 cap0r) := by rw [e1]; (first | (simp; done) | (simp (disch := (first | (simp; done) | (simp; omega))) [World.cell?_alloc_at]; done) | (simp (disch := (first | (simp; done) | (simp; omega))) [World.cell?_alloc_past]; done) | (simp (disch := (first | (simp; done) | (simp; omega))) [World.cell?_alloc_at, World.cell?_alloc_past]; done) | (simp (disch := (first | (simp; done) | (simp; omega))) [World.frozen?_alloc_at]; done) | (simp (disch := (first | (simp; done) | (simp; omega))) [World.frozen?_alloc_past]; done) | (simp (disch := (first | (simp; done) | (simp; omega))) [World.frozen?_alloc_at, World.frozen?_alloc_past]; done))
  have c1_1 : w1.cell? ⟨w.heap.size, 1, none⟩ = some (.slice A1 n1 cap1) := by rw [e1]; (first | (simp; done) | (simp (disch := (first | (simp; done) | (simp; omega))) [World.cell?_alloc_at]; done) | (simp (disch := (first | (simp; done) | (simp; omega))) [World.cell?_alloc_past]; done) | (simp (disch := (first | (simp; done) | (simp; omega))) [World.cell?_alloc_at, World.cell?_alloc_past]; done) | (simp (disch := (first | (simp; done) | (simp; omega))) [World.frozen?_alloc_at]; done) | (simp (disch := (first | (simp; done) | (simp; omega))) [World.frozen?_alloc_past]; done) | (simp (disch := (first | (simp; done) | (simp; omega))) [World.frozen?_alloc_at, World.frozen?_alloc_past]; done))
  have d1_1 : w1.cell? ⟨w.heap.size + 1, 1, none⟩ = some (.slice A1r n1 cap1r) := by rw [e1]; (first | (simp; done) | (simp (disch := (first | (simp; done) | (simp; omega))) [World.cell?_alloc_at]; done) | (simp (disch := (first | (simp; done) | (simp; omega))) [World.cell?_alloc_past]; done) | (simp (disch := (first | (simp; done) | (simp; omega))) [World.cell?_alloc_at, World.cell?_alloc_past]; done) | (simp (disch := (first | (simp; done) | (simp; omega))) [World.frozen?_alloc_at]; done) | (simp (disch := (first | (simp; done) | (simp; omega))) [World.frozen?_alloc_past]; done) | (simp (disch := (first | (simp; done) | (simp; omega))) [World.frozen?_alloc_at, World.frozen?_alloc_past]; done))
  have c2_1 : w1.cell? ⟨w.heap.size, 2, none⟩ = some (.int .i64 a2) := by rw [e1]; (first | (simp; done) | (simp (disch := (first | (simp; done) | (simp; omega))) [World.cell?_alloc_at]; done) | (simp (disch := (first | (simp; done) | (simp; omega))) [World.cell?_alloc_past]; done) | (simp (disch := (first | (simp; done) | (simp; omega))) [World.cell?_alloc_at, World.cell?_alloc_past]; done) | (simp (disch := (first | (simp; done) | (simp; omega))) [World.frozen?_alloc_at]; done) | (simp (disch := (first | (simp; done) | (simp; omega))) [World.frozen?_alloc_past]; done) | (simp (disch := (first | (simp; done) | (simp; omega))) [World.frozen?_alloc_at, World.frozen?_alloc_past]; done))
  have d2_1 : w1.cell? ⟨w.heap.size + 1, 2, none⟩ = some (.int .i64 a2) := by rw [e1]; (first | (simp; done) | (simp (disch := (first | (simp; done) | (simp; omega))) [World.cell?_alloc_at]; done) | (simp (disch := (first | (simp; done) | (simp; omega))) [World.cell?_alloc_past]; done) | (simp (disch := (first | (simp; done) | (simp; omega))) [World.cell?_alloc_at, World.cell?_alloc_past]; done) | (simp (disch := (first | (simp; done) | (simp; omega))) [World.frozen?_alloc_at]; done) | (simp (disch := (first | (simp; done) | (simp; omega))) [World.frozen?_alloc_past]; done) | (simp (disch := (first | (simp; done) | (simp; omega))) [World.frozen?_alloc_at, World.frozen?_alloc_past]; done))
  have c3_1 : w1.cell? ⟨w.heap.size, 3, none⟩ = some (.slice A3 n3 cap3) := by rw [e1]; (first | (simp; done) | (simp (disch := (first | (simp; done) | (simp; omega))) [World.cell?_alloc_at]; done) | (simp (disch := (first | (simp; done) | (simp; omega))) [World.cell?_alloc_past]; done) | (simp (disch := (first | (simp; done) | (simp; omega))) [World.cell?_alloc_at, World.cell?_alloc_past]; done) | (simp (disch := (first | (simp; done) | (simp; omega))) [World.frozen?_alloc_at]; done) | (simp (disch := (first | (simp; done) | (simp; omega))) [World.frozen?_alloc_past]; done) | (simp (disch := (first | (simp; done) | (simp; omega))) [World.frozen?_alloc_at, World.frozen?_alloc_past]; done))
  have d3_1 : w1.cell? ⟨w.heap.size + 1, 3, none⟩ = some (.slice A3r n3 cap3r) := by rw [e1]; (first | (simp; done) | (simp (disch := (first | (simp; done) | (simp; omega))) [World.cell?_alloc_at]; done) | (simp (disch := (first | (simp; done) | (simp; omega))) [World.cell?_alloc_past]; done) | (simp (disch := (first | (simp; done) | (simp; omega))) [World.cell?_alloc_at, World.cell?_alloc_past]; done) | (simp (disch := (first | (simp; done) | (simp; omega))) [World.frozen?_alloc_at]; done) | (simp (disch := (first | (simp; done) | (simp; omega))) [World.frozen?_alloc_past]; done) | (simp (disch := (first | (simp; done) | (simp; omega))) [World.frozen?_alloc_at, World.frozen?_alloc_past]; done))
  have c4_1 : w1.cell? ⟨w.heap.size, 4, none⟩ = some (.string a4) := by rw [e1]; (first | (simp; done) | (simp (disch := (first | (simp; done) | (simp; omega))) [World.cell?_alloc_at]; done) | (simp (disch := (first | (simp; done) | (simp; omega))) [World.cell?_alloc_past]; done) | (simp (disch := (first | (simp; done) | (simp; omega))) [World.cell?_alloc_at, World.cell?_alloc_past]; done) | (simp (disch := (first | (simp; done) | (simp; omega))) [World.frozen?_alloc_at]; done) | (simp (disch := (first | (simp; done) | (simp; omega))) [World.frozen?_alloc_past]; done) | (simp (disch := (first | (simp; done) | (simp; omega))) [World.frozen?_alloc_at, World.frozen?_alloc_past]; done))
  have d4_1 : w1.cell? ⟨w.heap.size + 1, 4, none⟩ = some (.string a4) := by rw [e1]; (first | (simp; done) | (simp (disch := (first | (simp; done) | (simp; omega))) [World.cell?_alloc_at]; done) | (simp (disch := (first | (simp; done) | (simp; omega))) [World.cell?_alloc_past]; done) | (simp (disch := (first | (simp; done) | (simp; omega))) [World.cell?_alloc_at, World.cell?_alloc_past]; done) | (simp (disch := (first | (simp; done) | (simp; omega))) [World.frozen?_alloc_at]; done) | (simp (disch := (first | (simp; done) | (simp; omega))) [World.frozen?_alloc_past]; done) | (simp (disch := (first | (simp; done) | (simp; omega))) [World.frozen?_alloc_at, World.frozen?_alloc_past]; done))
  have hx0 := (hx0.below B1).more B1.size
  have hy0 := (hy0.below B1).more B1.size
  have hx1 := (hx1.below B1).more B1.size
  have hy1 := (hy1.below B1).more B1.size
  have hx3 := (hx3.below B1).more B1.size
  have hy3 := (hy3.below B1).more B1.size
  go_enter Tryd.func8, Tryd.ntmps8
  go_wp2_with fail
  rw [← e1]
  clear e1
  refine (calls_grow (eqFloat32S_t w1 A0 A0r n0 cap0 cap0r _ _ xs0 xs0 hl0 hn0 rfl hx0 hy0)).mono ?_
  rintro e w2 ⟨rfl, hb2⟩
  have B2 := B1.trans (hb2.mono B1.size)
  have z2 := hb2.size
  have c0_2 := (hb2.cell (p := ⟨w.heap.size, 0, none⟩) (by simp only []; omega)).trans c0_1
  have d0_2 := (hb2.cell (p := ⟨w.heap.size + 1, 0, none⟩) (by simp only []; omega)).trans d0_1
  have c1_2 := (hb2.cell (p := ⟨w.heap.size, 1, none⟩) (by simp only []; omega)).trans c1_1
  have d1_2 := (hb2.cell (p := ⟨w.heap.size + 1, 1, none⟩) (by simp only []; omega)).trans d1_1
  have c2_2 := (hb2.cell (p := ⟨w.heap.size, 2, none⟩) (by simp only []; omega)).trans c2_1
  have d2_2 := (hb2.cell (p := ⟨w.heap.size + 1, 2, none⟩) (by simp only []; omega)).trans d2_1
  have c3_2 := (hb2.cell (p := ⟨w.heap.size, 3, none⟩) (by simp only []; omega)).trans c3_1
  have d3_2 := (hb2.cell (p := ⟨w.heap.size + 1, 3, none⟩) (by simp only []; omega)).trans d3_1
  have c4_2 := (hb2.cell (p := ⟨w.heap.size, 4, none⟩) (by simp only []; omega)).trans c4_1
  have d4_2 := (hb2.cell (p := ⟨w.heap.size + 1, 4, none⟩) (by simp only []; omega)).trans d4_1
  clear c0_1 c1_1 c2_1 c3_1 c4_1 d0_1 d1_1 d2_1 d3_1 d4_1
  go_wp2_with fail
  refine (eqCode_t w2 A1 A1r n1 cap1 cap1r xs1 hl1 hn1 ((hx1.below hb2).more hb2.size) ((hy1.below hb2).more hb2.size)).mono ?_
  rintro e w3 ⟨rfl, hb3⟩
  have B3 := B2.trans (hb3.mono B2.size)
  have z3 := hb3.size
  have c0_3 := (hb3.cell (p := ⟨w.heap.size, 0, none⟩) (by simp only []; omega)).trans c0_2
  have d0_3 := (hb3.cell (p := ⟨w.heap.size + 1, 0, none⟩) (by simp only []; omega)).trans d0_2
  have c1_3 := (hb3.cell (p := ⟨w.heap.size, 1, none⟩) (by simp only []; omega)).trans c1_2
  have d1_3 := (hb3.cell (p := ⟨w.heap.size + 1, 1, none⟩) (by simp only []; omega)).trans d1_2
  have c2_3 := (hb3.cell (p := ⟨w.heap.size, 2, none⟩) (by simp only []; omega)).trans c2_2
  have d2_3 := (hb3.cell (p := ⟨w.heap.size + 1, 2, none⟩) (by simp only []; omega)).trans d2_2
  have c3_3 := (hb3.cell (p := ⟨w.heap.size, 3, none⟩) (by simp only []; omega)).trans c3_2
  have d3_3 := (hb3.cell (p := ⟨w.heap.size + 1, 3, none⟩) (by simp only []; omega)).trans d3_2
  have c4_3 := (hb3.cell (p := ⟨w.heap.size, 4, none⟩) (by simp only []; omega)).trans c4_2
  have d4_3 := (hb3.cell (p := ⟨w.heap.size + 1, 4, none⟩) (by simp only []; omega)).trans d4_2
  clear c0_2 c1_2 c2_2 c3_2 c4_2 d0_2 d1_2 d2_2 d3_2 d4_2
  have hx3 := ((hx3.below hb2).more hb2.size)
  have hy3 := ((hy3.below hb2).more hb2.size)
  go_wp2_with fail
  refine (eqParity_t w3 a2 A3 A3r n3 cap3 cap3r xs3 hl3 hn3 ((hx3.below hb3).more hb3.size) ((hy3.below hb3).more hb3.size)).mono ?_
  rintro e w4 ⟨rfl, hb4⟩
  have B4 := B3.trans (hb4.mono B3.size)
  have c0_4 := (hb4.cell (p := ⟨w.heap.size, 0, none⟩) (by simp only []; omega)).trans c0_3
  have d0_4 := (hb4.cell (p := ⟨w.heap.size + 1, 0, none⟩) (by simp only []; omega)).trans d0_3
  have c1_4 := (hb4.cell (p := ⟨w.heap.size, 1, none⟩) (by simp only []; omega)).trans c1_3
  have d1_4 := (hb4.cell (p := ⟨w.heap.size + 1, 1, none⟩) (by simp only []; omega)).trans d1_3
  have c2_4 := (hb4.cell (p := ⟨w.heap.size, 2, none⟩) (by simp only []; omega)).trans c2_3
  have d2_4 := (hb4.cell (p := ⟨w.heap.size + 1, 2, none⟩) (by simp only []; omega)).trans d2_3
  have c3_4 := (hb4.cell (p := ⟨w.heap.size, 3, none⟩) (by simp only []; omega)).trans c3_3
  have d3_4 := (hb4.cell (p := ⟨w.heap.size + 1, 3, none⟩) (by simp only []; omega)).trans d3_3
  have c4_4 := (hb4.cell (p := ⟨w.heap.size, 4, none⟩) (by simp only []; omega)).trans c4_3
  have d4_4 := (hb4.cell (p := ⟨w.heap.size + 1, 4, none⟩) (by simp only []; omega)).trans d4_3
  clear c0_3 c1_3 c2_3 c3_3 c4_3 d0_3 d1_3 d2_3 d3_3 d4_3
  go_wp2
  go_ret
  exact ⟨rfl, B4⟩

end Go.Proofs.YtkhaiajeiiocmaaDoor
