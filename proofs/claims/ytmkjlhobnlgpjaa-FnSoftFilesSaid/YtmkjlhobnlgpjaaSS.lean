/-
  Contracts: struct values that are saved: copies, sizes, comparisons.
  Conditions: lengths at most 1048576 where they are copied.
-/
import Derived.Test.YtmkjlhobnlgpjaaSC
import Derived.Deep.RegionHeld3
namespace Go.Proofs.Ytmkjlhobnlgpjaa
open Go.RowKit


theorem szBoolS_c (w : World) (A : Option Addr) (n cap : Nat) (left : Int) (h0 : 0 ≤ left) (h1 : left ≤ 1048576) (hn : n ≤ 9223372036854775807) :
    Calls Try.prog 39 #[.slice A n cap, .int .i64 left] w fun e w' => e = .returned (.int .i64 (szr left n)) ∧ w = w' := by
  by_cases h : left - n < 0
  · have e1 : szr left n = -1 := by unfold szr; rw [if_pos h]
    rw [e1]
    clear e1
    go_enter Try.func39, Try.ntmps39
    go_wp2
    go_ret
    exact ⟨rfl, rfl⟩
  · have e1 : szr left n = left - n := by unfold szr; rw [if_neg h]
    rw [e1]
    clear e1
    go_enter Try.func39, Try.ntmps39
    go_wp2
    go_ret
    exact ⟨rfl, rfl⟩


theorem szFloat32S_c (w : World) (A : Option Addr) (n cap : Nat) (left : Int) (h0 : 0 ≤ left) (h1 : left ≤ 1048576) (hn : n ≤ 9223372036854775807) :
    Calls Try.prog 40 #[.slice A n cap, .int .i64 left] w fun e w' => e = .returned (.int .i64 (szr left n)) ∧ w = w' := by
  by_cases h : left - n < 0
  · have e1 : szr left n = -1 := by unfold szr; rw [if_pos h]
    rw [e1]
    clear e1
    go_enter Try.func40, Try.ntmps40
    go_wp2
    go_ret
    exact ⟨rfl, rfl⟩
  · have e1 : szr left n = left - n := by unfold szr; rw [if_neg h]
    rw [e1]
    clear e1
    go_enter Try.func40, Try.ntmps40
    go_wp2
    go_ret
    exact ⟨rfl, rfl⟩


set_option maxRecDepth 100000 in
set_option maxHeartbeats 1000000 in
theorem toSaved_c (w : World) (a0 : ByteArray) (A1 : Option Addr) (n1 cap1 : Nat) (xs1 : List Bool) (hl1 : xs1.length = n1) (hn1 : n1 ≤ 1048576) (hx1 : Sl w w.heap.size A1 (xs1.map Value.bool)) (A2 : Option Addr) (n2 cap2 : Nat) (xs2 : List Nat) (hl2 : xs2.length = n2) (hn2 : n2 ≤ 1048576) (hx2 : Sl w w.heap.size A2 (xs2.map (Value.float .f32))) :
    Calls Try.prog 16 #[.agg #[.string a0, .slice A1 n1 cap1, .slice A2 n2 cap2]] w fun e w' => ∃ v1 v2, e = .returned (.agg #[.string a0, v1, v2]) ∧ Ow w' w.heap.size 4 v1 (xs1.map Value.bool) ∧ Ow w' w.heap.size 58 v2 (xs2.map (Value.float .f32)) ∧ Below w.heap.size w w' := by
  obtain ⟨w1, e1⟩ : ∃ q : World, q = ((w.alloc (.cells #[.string a0, .slice A1 n1 cap1, .slice A2 n2 cap2] 31)).alloc (.cells #[.string ⟨#[]⟩, .slice none 0 0, .slice none 0 0] 35)).alloc (.cells #[.string a0, .slice none 0 0, .slice none 0 0] 35) := ⟨_, rfl⟩
  have z1 : w1.heap.size = w.heap.size + 1 + 1 + 1 := by rw [e1]; simp
  have B1 : Below w.heap.size w w1 := by rw [e1]; exact (((Below.refl _ _).alloc (Nat.le_refl _) _).alloc (by simp) _).alloc (by simp; omega) _
  have c00_1 : w1.cell? ⟨w.heap.size, 0, none⟩ = some (.string a0) := by rw [e1]; (first | (simp; done) | (simp (disch := (first | (simp; done) | (simp; omega))) [World.cell?_alloc_at]; done) | (simp (disch := (first | (simp; done) | (simp; omega))) [World.cell?_alloc_past]; done) | (simp (disch := (first | (simp; done) | (simp; omega))) [World.cell?_alloc_at, World.cell?_alloc_past]; done) | (simp (disch := (first | (simp; done) | (simp; omega))) [World.frozen?_alloc_at]; done) | (simp (disch := (first | (simp; done) | (simp; omega))) [World.frozen?_alloc_past]; done) | (simp (disch := (first | (simp; done) | (simp; omega))) [World.frozen?_alloc_at, World.frozen?_alloc_past]; done))
  have c10_1 : w1.cell? ⟨w.heap.size + 1, 0, none⟩ = some (.string ⟨#[]⟩) := by rw [e1]; (first | (simp; done) | (simp (disch := (first | (simp; done) | (simp; omega))) [World.cell?_alloc_at]; done) | (simp (disch := (first | (simp; done) | (simp; omega))) [World.cell?_alloc_past]; done) | (simp (disch := (first | (simp; done) | (simp; omega))) [World.cell?_alloc_at, World.cell?_alloc_past]; done) | (simp (disch := (first | (simp; done) | (simp; omega))) [World.frozen?_alloc_at]; done) | (simp (disch := (first | (simp; done) | (simp; omega))) [World.frozen?_alloc_past]; done) | (simp (disch := (first | (simp; done) | (simp; omega))) [World.frozen?_alloc_at, World.frozen?_alloc_past]; done))
  have c20_1 : w1.cell? ⟨w.heap.size + 1 + 1, 0, none⟩ = some (.string a0) := by rw [e1]; (first | (simp; done) | (simp (disch := (first | (simp; done) | (simp; omega))) [World.cell?_alloc_at]; done) | (simp (disch := (first | (simp; done) | (simp; omega))) [World.cell?_alloc_past]; done) | (simp (disch := (first | (simp; done) | (simp; omega))) [World.cell?_alloc_at, World.cell?_alloc_past]; done) | (simp (disch := (first | (simp; done) | (simp; omega))) [World.frozen?_alloc_at]; done) | (simp (disch := (first | (simp; done) | (simp; omega))) [World.frozen?_alloc_past]; done) | (simp (disch := (first | (simp; done) | (simp; omega))) [World.frozen?_alloc_at, World.frozen?_alloc_past]; done))
  have c01_1 : w1.cell? ⟨w.heap.size, 1, none⟩ = some (.slice A1 n1 cap1) := by rw [e1]; (first | (simp; done) | (simp (disch := (first | (simp; done) | (simp; omega))) [World.cell?_alloc_at]; done) | (simp (disch := (first | (simp; done) | (simp; omega))) [World.cell?_alloc_past]; done) | (simp (disch := (first | (simp; done) | (simp; omega))) [World.cell?_alloc_at, World.cell?_alloc_past]; done) | (simp (disch := (first | (simp; done) | (simp; omega))) [World.frozen?_alloc_at]; done) | (simp (disch := (first | (simp; done) | (simp; omega))) [World.frozen?_alloc_past]; done) | (simp (disch := (first | (simp; done) | (simp; omega))) [World.frozen?_alloc_at, World.frozen?_alloc_past]; done))
  have c11_1 : w1.cell? ⟨w.heap.size + 1, 1, none⟩ = some (.slice none 0 0) := by rw [e1]; (first | (simp; done) | (simp (disch := (first | (simp; done) | (simp; omega))) [World.cell?_alloc_at]; done) | (simp (disch := (first | (simp; done) | (simp; omega))) [World.cell?_alloc_past]; done) | (simp (disch := (first | (simp; done) | (simp; omega))) [World.cell?_alloc_at, World.cell?_alloc_past]; done) | (simp (disch := (first | (simp; done) | (simp; omega))) [World.frozen?_alloc_at]; done) | (simp (disch := (first | (simp; done) | (simp; omega))) [World.frozen?_alloc_past]; done) | (simp (disch := (first | (simp; done) | (simp; omega))) [World.frozen?_alloc_at, World.frozen?_alloc_past]; done))
  have c21_1 : w1.cell? ⟨w.heap.size + 1 + 1, 1, none⟩ = some (.slice none 0 0) := by rw [e1]; (first | (simp; done) | (simp (disch := (first | (simp; done) | (simp; omega))) [World.cell?_alloc_at]; done) | (simp (disch := (first | (simp; done) | (simp; omega))) [World.cell?_alloc_past]; done) | (simp (disch := (first | (simp; done) | (simp; omega))) [World.cell?_alloc_at, World.cell?_alloc_past]; done) | (simp (disch := (first | (simp; done) | (simp; omega))) [World.frozen?_alloc_at]; done) | (simp (disch := (first | (simp; done) | (simp; omega))) [World.frozen?_alloc_past]; done) | (simp (disch := (first | (simp; done) | (simp; omega))) [World.frozen?_alloc_at, World.frozen?_alloc_past]; done))
  have c02_1 : w1.cell? ⟨w.heap.size, 2, none⟩ = some (.slice A2 n2 cap2) := by rw [e1]; (first | (simp; done) | (simp (disch := (first | (simp; done) | (simp; omega))) [World.cell?_alloc_at]; done) | (simp (disch := (first | (simp; done) | (simp; omega))) [World.cell?_alloc_past]; done) | (simp (disch := (first | (simp; done) | (simp; omega))) [World.cell?_alloc_at, World.cell?_alloc_past]; done) | (simp (disch := (first | (simp; done) | (simp; omega))) [World.frozen?_alloc_at]; done) | (simp (disch := (first | (simp; done) | (simp; omega))) [World.frozen?_alloc_past]; done) | (simp (disch := (first | (simp; done) | (simp; omega))) [World.frozen?_alloc_at, World.frozen?_alloc_past]; done))
  have c12_1 : w1.cell? ⟨w.heap.size + 1, 2, none⟩ = some (.slice none 0 0) := by rw [e1]; (first | (simp; done) | (simp (disch := (first | (simp; done) | (simp; omega))) [World.cell?_alloc_at]; done) | (simp (disch := (first | (simp; done) | (simp; omega))) [World.cell?_alloc_past]; done) | (simp (disch := (first | (simp; done) | (simp; omega))) [World.cell?_alloc_at, World.cell?_alloc_past]; done) | (simp (disch := (first | (simp; done) | (simp; omega))) [World.frozen?_alloc_at]; done) | (simp (disch := (first | (simp; done) | (simp; omega))) [World.frozen?_alloc_past]; done) | (simp (disch := (first | (simp; done) | (simp; omega))) [World.frozen?_alloc_at, World.frozen?_alloc_past]; done))
  have c22_1 : w1.cell? ⟨w.heap.size + 1 + 1, 2, none⟩ = some (.slice none 0 0) := by rw [e1]; (first | (simp; done) | (simp (disch := (first | (simp; done) | (simp; omega))) [World.cell?_alloc_at]; done) | (simp (disch := (first | (simp; done) | (simp; omega))) [World.cell?_alloc_past]; done) | (simp (disch := (first | (simp; done) | (simp; omega))) [World.cell?_alloc_at, World.cell?_alloc_past]; done) | (simp (disch := (first | (simp; done) | (simp; omega))) [World.frozen?_alloc_at]; done) | (simp (disch := (first | (simp; done) | (simp; omega))) [World.frozen?_alloc_past]; done) | (simp (disch := (first | (simp; done) | (simp; omega))) [World.frozen?_alloc_at, World.frozen?_alloc_past]; done))
  have f10_1 : w1.frozen? ⟨w.heap.size + 1, 0, none⟩ = false := by rw [e1]; (first | (simp; done) | (simp (disch := (first | (simp; done) | (simp; omega))) [World.cell?_alloc_at]; done) | (simp (disch := (first | (simp; done) | (simp; omega))) [World.cell?_alloc_past]; done) | (simp (disch := (first | (simp; done) | (simp; omega))) [World.cell?_alloc_at, World.cell?_alloc_past]; done) | (simp (disch := (first | (simp; done) | (simp; omega))) [World.frozen?_alloc_at]; done) | (simp (disch := (first | (simp; done) | (simp; omega))) [World.frozen?_alloc_past]; done) | (simp (disch := (first | (simp; done) | (simp; omega))) [World.frozen?_alloc_at, World.frozen?_alloc_past]; done))
  have f20_1 : w1.frozen? ⟨w.heap.size + 1 + 1, 0, none⟩ = false := by rw [e1]; (first | (simp; done) | (simp (disch := (first | (simp; done) | (simp; omega))) [World.cell?_alloc_at]; done) | (simp (disch := (first | (simp; done) | (simp; omega))) [World.cell?_alloc_past]; done) | (simp (disch := (first | (simp; done) | (simp; omega))) [World.cell?_alloc_at, World.cell?_alloc_past]; done) | (simp (disch := (first | (simp; done) | (simp; omega))) [World.frozen?_alloc_at]; done) | (simp (disch := (first | (simp; done) | (simp; omega))) [World.frozen?_alloc_past]; done) | (simp (disch := (first | (simp; done) | (simp; omega))) [World.frozen?_alloc_at, World.frozen?_alloc_past]; done))
  have f11_1 : w1.frozen? ⟨w.heap.size + 1, 1, none⟩ = false := by rw [e1]; (first | (simp; done) | (simp (disch := (first | (simp; done) | (simp; omega))) [World.cell?_alloc_at]; done) | (simp (disch := (first | (simp; done) | (simp; omega))) [World.cell?_alloc_past]; done) | (simp (disch := (first | (simp; done) | (simp; omega))) [World.cell?_alloc_at, World.cell?_alloc_past]; done) | (simp (disch := (first | (simp; done) | (simp; omega))) [World.frozen?_alloc_at]; done) | (simp (disch := (first | (simp; done) | (simp; omega))) [World.frozen?_alloc_past]; done) | (simp (disch := (first | (simp; done) | (simp; omega))) [World.frozen?_alloc_at, World.frozen?_alloc_past]; done))
  have f21_1 : w1.frozen? ⟨w.heap.size + 1 + 1, 1, none⟩ = false := by rw [e1]; (first | (simp; done) | (simp (disch := (first | (simp; done) | (simp; omega))) [World.cell?_alloc_at]; done) | (simp (disch := (first | (simp; done) | (simp; omega))) [World.cell?_alloc_past]; done) | (simp (disch := (first | (simp; done) | (simp; omega))) [World.cell?_alloc_at, World.cell?_alloc_past]; done) | (simp (disch := (first | (simp; done) | (simp; omega))) [World.frozen?_alloc_at]; done) | (simp (disch := (first | (simp; done) | (simp; omega))) [World.frozen?_alloc_past]; done) | (simp (disch := (first | (simp; done) | (simp; omega))) [World.frozen?_alloc_at, World.frozen?_alloc_past]; done))
  have f12_1 : w1.frozen? ⟨w.heap.size + 1, 2, none⟩ = false := by rw [e1]; (first | (simp; done) | (simp (disch := (first | (simp; done) | (simp; omega))) [World.cell?_alloc_at]; done) | (simp (disch := (first | (simp; done) | (simp; omega))) [World.cell?_alloc_past]; done) | (simp (disch := (first | (simp; done) | (simp; omega))) [World.cell?_alloc_at, World.cell?_alloc_past]; done) | (simp (disch := (first | (simp; done) | (simp; omega))) [World.frozen?_alloc_at]; done) | (simp (disch := (first | (simp; done) | (simp; omega))) [World.frozen?_alloc_past]; done) | (simp (disch := (first | (simp; done) | (simp; omega))) [World.frozen?_alloc_at, World.frozen?_alloc_past]; done))
  have f22_1 : w1.frozen? ⟨w.heap.size + 1 + 1, 2, none⟩ = false := by rw [e1]; (first | (simp; done) | (simp (disch := (first | (simp; done) | (simp; omega))) [World.cell?_alloc_at]; done) | (simp (disch := (first | (simp; done) | (simp; omega))) [World.cell?_alloc_past]; done) | (simp (disch := (first | (simp; done) | (simp; omega))) [World.cell?_alloc_at, World.cell?_alloc_past]; done) | (simp (disch := (first | (simp; done) | (simp; omega))) [World.frozen?_alloc_at]; done) | (simp (disch := (first | (simp; done) | (simp; omega))) [World.frozen?_alloc_past]; done) | (simp (disch := (first | (simp; done) | (simp; omega))) [World.frozen?_alloc_at, World.frozen?_alloc_past]; done))
  go_enter Try.func16, Try.ntmps16
  go_wp2_with fail
  rw [← e1]
  clear e1
  refine (toBoolS_c w1 A1 n1 cap1 xs1 hl1 hn1 ((hx1.below B1).more B1.size)).mono ?_
  rintro e w2 ⟨v1, rfl, ho1, hb2⟩
  obtain ⟨S1, k1, rfl, hp1⟩ := ho1.opn
  rw [hl1] at hp1 ⊢
  clear ho1
  have z2 := hb2.size
  have B2 := B1.trans (hb2.mono B1.size)
  have c00_2 := (hb2.cell (p := ⟨w.heap.size, 0, none⟩) (by simp only []; omega)).trans c00_1
  have c10_2 := (hb2.cell (p := ⟨w.heap.size + 1, 0, none⟩) (by simp only []; omega)).trans c10_1
  have c20_2 := (hb2.cell (p := ⟨w.heap.size + 1 + 1, 0, none⟩) (by simp only []; omega)).trans c20_1
  have c01_2 := (hb2.cell (p := ⟨w.heap.size, 1, none⟩) (by simp only []; omega)).trans c01_1
  have c11_2 := (hb2.cell (p := ⟨w.heap.size + 1, 1, none⟩) (by simp only []; omega)).trans c11_1
  have c21_2 := (hb2.cell (p := ⟨w.heap.size + 1 + 1, 1, none⟩) (by simp only []; omega)).trans c21_1
  have c02_2 := (hb2.cell (p := ⟨w.heap.size, 2, none⟩) (by simp only []; omega)).trans c02_1
  have c12_2 := (hb2.cell (p := ⟨w.heap.size + 1, 2, none⟩) (by simp only []; omega)).trans c12_1
  have c22_2 := (hb2.cell (p := ⟨w.heap.size + 1 + 1, 2, none⟩) (by simp only []; omega)).trans c22_1
  have f10_2 := (hb2.frozen (p := ⟨w.heap.size + 1, 0, none⟩) (by simp only []; omega)).trans f10_1
  have f20_2 := (hb2.frozen (p := ⟨w.heap.size + 1 + 1, 0, none⟩) (by simp only []; omega)).trans f20_1
  have f11_2 := (hb2.frozen (p := ⟨w.heap.size + 1, 1, none⟩) (by simp only []; omega)).trans f11_1
  have f21_2 := (hb2.frozen (p := ⟨w.heap.size + 1 + 1, 1, none⟩) (by simp only []; omega)).trans f21_1
  have f12_2 := (hb2.frozen (p := ⟨w.heap.size + 1, 2, none⟩) (by simp only []; omega)).trans f12_1
  have f22_2 := (hb2.frozen (p := ⟨w.heap.size + 1 + 1, 2, none⟩) (by simp only []; omega)).trans f22_1
  clear c00_1 c10_1 c20_1 c01_1 c11_1 c21_1 c02_1 c12_1 c22_1 f10_1 f20_1 f11_1 f21_1 f12_1 f22_1
  go_wp2_with fail
  obtain ⟨w3, e3⟩ : ∃ q : World, q = (w2.setCell ⟨w.heap.size + 1 + 1, 1, none⟩ (.slice S1 n1 k1)) := ⟨_, rfl⟩
  rw [← e3]
  have c00_3 : w3.cell? ⟨w.heap.size, 0, none⟩ = some (.string a0) := by rw [e3, World.cell?_setCell_other _ _ _ _ (by intro h; injection h with h1 h2; omega)]; exact c00_2
  have c10_3 : w3.cell? ⟨w.heap.size + 1, 0, none⟩ = some (.string ⟨#[]⟩) := by rw [e3, World.cell?_setCell_other _ _ _ _ (by intro h; injection h with h1 h2; omega)]; exact c10_2
  have c20_3 : w3.cell? ⟨w.heap.size + 1 + 1, 0, none⟩ = some (.string a0) := by rw [e3, World.cell?_setCell_other _ _ _ _ (by intro h; injection h with h1 h2; omega)]; exact c20_2
  have c01_3 : w3.cell? ⟨w.heap.size, 1, none⟩ = some (.slice A1 n1 cap1) := by rw [e3, World.cell?_setCell_other _ _ _ _ (by intro h; injection h with h1 h2; omega)]; exact c01_2
  have c11_3 : w3.cell? ⟨w.heap.size + 1, 1, none⟩ = some (.slice none 0 0) := by rw [e3, World.cell?_setCell_other _ _ _ _ (by intro h; injection h with h1 h2; omega)]; exact c11_2
  have c21_3 : w3.cell? ⟨w.heap.size + 1 + 1, 1, none⟩ = some (.slice S1 n1 k1) := by rw [e3]; exact World.cell?_setCell_same _ _ _ c21_2
  have c02_3 : w3.cell? ⟨w.heap.size, 2, none⟩ = some (.slice A2 n2 cap2) := by rw [e3, World.cell?_setCell_other _ _ _ _ (by intro h; injection h with h1 h2; omega)]; exact c02_2
  have c12_3 : w3.cell? ⟨w.heap.size + 1, 2, none⟩ = some (.slice none 0 0) := by rw [e3, World.cell?_setCell_other _ _ _ _ (by intro h; injection h with h1 h2; omega)]; exact c12_2
  have c22_3 : w3.cell? ⟨w.heap.size + 1 + 1, 2, none⟩ = some (.slice none 0 0) := by rw [e3, World.cell?_setCell_other _ _ _ _ (by intro h; injection h with h1 h2; omega)]; exact c22_2
  have f10_3 : w3.frozen? ⟨w.heap.size + 1, 0, none⟩ = false := by rw [e3, frozen_set]; exact f10_2
  have f20_3 : w3.frozen? ⟨w.heap.size + 1 + 1, 0, none⟩ = false := by rw [e3, frozen_set]; exact f20_2
  have f11_3 : w3.frozen? ⟨w.heap.size + 1, 1, none⟩ = false := by rw [e3, frozen_set]; exact f11_2
  have f21_3 : w3.frozen? ⟨w.heap.size + 1 + 1, 1, none⟩ = false := by rw [e3, frozen_set]; exact f21_2
  have f12_3 : w3.frozen? ⟨w.heap.size + 1, 2, none⟩ = false := by rw [e3, frozen_set]; exact f12_2
  have f22_3 : w3.frozen? ⟨w.heap.size + 1 + 1, 2, none⟩ = false := by rw [e3, frozen_set]; exact f22_2
  have hp1 := ownsRow_setCell_below hp1 (a := ⟨w.heap.size + 1 + 1, 1, none⟩) (by simp only []; omega) (.slice S1 n1 k1)
  rw [← e3] at hp1
  have B3 : Below w.heap.size w w3 := by rw [e3]; exact B2.setCell (p := ⟨w.heap.size + 1 + 1, 1, none⟩) (by simp only []; omega) _
  have z3 : w3.heap.size = w2.heap.size := by rw [e3]; simp
  clear e3 c00_2 c10_2 c20_2 c01_2 c11_2 c21_2 c02_2 c12_2 c22_2 f10_2 f20_2 f11_2 f21_2 f12_2 f22_2
  refine (toFloat32S_c w3 A2 n2 cap2 xs2 hl2 hn2 ((hx2.below B3).more B3.size)).mono ?_
  rintro e w4 ⟨v2, rfl, ho2, hb4⟩
  obtain ⟨S2, k2, rfl, hp2⟩ := ho2.opn
  rw [hl2] at hp2 ⊢
  clear ho2
  have z4 := hb4.size
  have B4 := B3.trans (hb4.mono B3.size)
  have c00_4 := (hb4.cell (p := ⟨w.heap.size, 0, none⟩) (by simp only []; omega)).trans c00_3
  have c10_4 := (hb4.cell (p := ⟨w.heap.size + 1, 0, none⟩) (by simp only []; omega)).trans c10_3
  have c20_4 := (hb4.cell (p := ⟨w.heap.size + 1 + 1, 0, none⟩) (by simp only []; omega)).trans c20_3
  have c01_4 := (hb4.cell (p := ⟨w.heap.size, 1, none⟩) (by simp only []; omega)).trans c01_3
  have c11_4 := (hb4.cell (p := ⟨w.heap.size + 1, 1, none⟩) (by simp only []; omega)).trans c11_3
  have c21_4 := (hb4.cell (p := ⟨w.heap.size + 1 + 1, 1, none⟩) (by simp only []; omega)).trans c21_3
  have c02_4 := (hb4.cell (p := ⟨w.heap.size, 2, none⟩) (by simp only []; omega)).trans c02_3
  have c12_4 := (hb4.cell (p := ⟨w.heap.size + 1, 2, none⟩) (by simp only []; omega)).trans c12_3
  have c22_4 := (hb4.cell (p := ⟨w.heap.size + 1 + 1, 2, none⟩) (by simp only []; omega)).trans c22_3
  have f10_4 := (hb4.frozen (p := ⟨w.heap.size + 1, 0, none⟩) (by simp only []; omega)).trans f10_3
  have f20_4 := (hb4.frozen (p := ⟨w.heap.size + 1 + 1, 0, none⟩) (by simp only []; omega)).trans f20_3
  have f11_4 := (hb4.frozen (p := ⟨w.heap.size + 1, 1, none⟩) (by simp only []; omega)).trans f11_3
  have f21_4 := (hb4.frozen (p := ⟨w.heap.size + 1 + 1, 1, none⟩) (by simp only []; omega)).trans f21_3
  have f12_4 := (hb4.frozen (p := ⟨w.heap.size + 1, 2, none⟩) (by simp only []; omega)).trans f12_3
  have f22_4 := (hb4.frozen (p := ⟨w.heap.size + 1 + 1, 2, none⟩) (by simp only []; omega)).trans f22_3
  clear c00_3 c10_3 c20_3 c01_3 c11_3 c21_3 c02_3 c12_3 c22_3 f10_3 f20_3 f11_3 f21_3 f12_3 f22_3
  have hp1 := own_below hp1 hb4 (Nat.le_refl _)
  go_wp2
  refine bodyPost_ret (v := .agg #[.string a0, .slice S1 n1 k1, .slice S2 n2 k2]) (by unfold results; rw [Try.results16]; go_simp) rfl ?_
  refine ⟨_, _, rfl, ?_, ?_, ?_⟩
  · unfold Ow
    rw [List.length_map, hl1]
    refine own_base (base := w1.heap.size) ?_ (by omega)
    iterate 4 (refine ownsRow_setCell_below ?_ (by simp; omega) _)
    exact hp1
  · unfold Ow
    rw [List.length_map, hl2]
    refine own_base (base := w3.heap.size) ?_ (by omega)
    iterate 4 (refine ownsRow_setCell_below ?_ (by simp; omega) _)
    exact hp2
  · iterate 4 (refine Below.setCell ?_ (by simp <;> omega) _)
    exact B4


set_option maxRecDepth 100000 in
set_option maxHeartbeats 1000000 in
theorem szSaved_c (w : World) (a0 : ByteArray) (A1 : Option Addr) (n1 cap1 : Nat) (A2 : Option Addr) (n2 cap2 : Nat) (left : Int) (h0 : 0 ≤ left) (h1 : left ≤ 1048576) (hs0 : a0.size ≤ 9223372036854775807) (hn1 : n1 ≤ 9223372036854775807) (hn2 : n2 ≤ 9223372036854775807) :
    Calls Try.prog 14 #[.agg #[.string a0, .slice A1 n1 cap1, .slice A2 n2 cap2], .int .i64 left] w fun e w' => ∃ q : Int, e = .returned (.int .i64 q) ∧ (q = -1 ∨ (0 ≤ q ∧ q ≤ 1048576 ∧ a0.size ≤ 1048576 ∧ n1 ≤ 1048576 ∧ n2 ≤ 1048576)) ∧ Below w.heap.size w w' := by
  have hB := (Below.refl w.heap.size w).alloc (Nat.le_refl _) (Obj.cells #[.string a0, .slice A1 n1 cap1, .slice A2 n2 cap2] 31)
  have HB := Lib.hid hB
  clear hB
  by_cases g0 : left - (a0.size : Int) < 0
  · go_enter Try.func14, Try.ntmps14
    go_wp2
    go_ret
    exact ⟨_, rfl, .inl rfl, HB.out⟩
  go_enter Try.func14, Try.ntmps14
  obtain ⟨l0, hl0⟩ : ∃ l : Int, left - (a0.size : Int) = l := ⟨_, rfl⟩
  have hb0 : 0 ≤ l0 ∧ l0 ≤ 1048576 := by omega
  have he0 : a0.size ≤ 1048576 := by omega
  have HL0 := Lib.hid hl0
  clear hl0
  go_wp2_with fail
  rw [HL0.out]
  refine (szBoolS_c _ A1 n1 cap1 l0 hb0.1 hb0.2 hn1).mono ?_
  rintro e w' ⟨rfl, rfl⟩
  have s1 := szr_bd hb0.1 hb0.2 n1
  obtain ⟨l1, hl1⟩ : ∃ l : Int, szr l0 n1 = l := ⟨_, rfl⟩
  rw [hl1] at s1 ⊢
  clear hl1
  rcases s1 with ⟨s1, rfl⟩ | ⟨s1, t1, u1⟩
  · go_wp2
    go_ret
    exact ⟨_, rfl, .inl rfl, HB.out⟩
  have hb1 : 0 ≤ l1 ∧ l1 ≤ 1048576 := ⟨s1, t1⟩
  have he1 : n1 ≤ 1048576 := by omega
  go_wp2_with fail
  refine (szFloat32S_c _ A2 n2 cap2 l1 hb1.1 hb1.2 hn2).mono ?_
  rintro e w' ⟨rfl, rfl⟩
  have s2 := szr_bd hb1.1 hb1.2 n2
  obtain ⟨l2, hl2⟩ : ∃ l : Int, szr l1 n2 = l := ⟨_, rfl⟩
  rw [hl2] at s2 ⊢
  clear hl2
  rcases s2 with ⟨s2, rfl⟩ | ⟨s2, t2, u2⟩
  · go_wp2
    go_ret
    exact ⟨_, rfl, .inl rfl, HB.out⟩
  have hb2 : 0 ≤ l2 ∧ l2 ≤ 1048576 := ⟨s2, t2⟩
  have he2 : n2 ≤ 1048576 := by omega
  go_wp2
  go_ret
  exact ⟨_, rfl, .inr ⟨hb2.1, hb2.2, he0, he1, he2⟩, HB.out⟩


set_option maxRecDepth 100000 in
set_option maxHeartbeats 1000000 in
theorem eqSaved_t (w : World) (a0 : ByteArray) (A1 A1r : Option Addr) (n1 cap1 cap1r : Nat) (xs1 : List Bool) (hl1 : xs1.length = n1) (hn1 : n1 ≤ 1099511627776) (hx1 : Sl w w.heap.size A1 (xs1.map Value.bool)) (hy1 : Sl w w.heap.size A1r (xs1.map Value.bool)) (A2 A2r : Option Addr) (n2 cap2 cap2r : Nat) (xs2 : List Nat) (hl2 : xs2.length = n2) (hn2 : n2 ≤ 1099511627776) (hx2 : Sl w w.heap.size A2 (xs2.map (Value.float .f32))) (hy2 : Sl w w.heap.size A2r (xs2.map (Value.float .f32))) :
    Calls Try.prog 18 #[.agg #[.string a0, .slice A1 n1 cap1, .slice A2 n2 cap2], .agg #[.string a0, .slice A1r n1 cap1r, .slice A2r n2 cap2r]] w fun e w' => e = .returned (.bool true) ∧ Below w.heap.size w w' := by
  have hB := ((Below.refl w.heap.size w).alloc (Nat.le_refl _) (Obj.cells #[.string a0, .slice A1 n1 cap1, .slice A2 n2 cap2] 35)).alloc (by simp) (Obj.cells #[.string a0, .slice A1r n1 cap1r, .slice A2r n2 cap2r] 35)
  have HB := Lib.hid hB
  clear hB
  go_enter Try.func18, Try.ntmps18
  go_wp2_with fail
  refine (eqBoolS_t _ A1 A1r n1 cap1 cap1r _ _ xs1 hl1 hn1 (((hx1.alloc (Nat.le_refl _) _).alloc (by simp) _)) (((hy1.alloc (Nat.le_refl _) _).alloc (by simp) _))).mono ?_
  rintro e w' ⟨rfl, q0, rfl⟩
  go_wp2_with fail
  refine (eqFloat32S_t _ A2 A2r n2 cap2 cap2r _ _ xs2 xs2 hl2 hn2 rfl (((hx2.alloc (Nat.le_refl _) _).alloc (by simp) _).drewN _) (((hy2.alloc (Nat.le_refl _) _).alloc (by simp) _).drewN _)).mono ?_
  rintro e w' ⟨rfl, q1, rfl⟩
  go_wp2
  go_ret
  exact ⟨rfl, (below_drewN HB.out _)⟩

end Go.Proofs.Ytmkjlhobnlgpjaa
