/-
  Contracts: two bunches joined.
  Conditions: each of 1 to 524288 letters; weights below 2 to the power of 40.
-/
import Derived.Test.YtkmfjadlobpbkaaMG
namespace Go.Proofs.Ytkmfjadlobpbkaa
open Go.RowKit Go.Shelf Go.Sort Go.Lib

theorem own_form {w : World} {base : Nat} {e : TypeId} {n : Nat} {v : Value} {xs : List Value} (h : w.ownsRow base e 1 v n xs) (hn : 0 < n) : ∃ g cap, v = .slice (some ⟨g, 0, none⟩) n cap := by
  rcases h.2 with ⟨_, h0⟩ | ⟨g, cap, _, rfl, _⟩
  · omega
  · exact ⟨g, cap, rfl⟩

theorem far2 {w : World} {b o1 o2 c o : Nat} {u v x : Value} (h : w.cell? ⟨c, o, none⟩ = some x) (hn : b ≠ c) : ((w.setCell ⟨b, o1, none⟩ u).setCell ⟨b, o2, none⟩ v).cell? ⟨c, o, none⟩ = some x :=
  (World.cell?_setCell_far _ _ _ _ hn).trans ((World.cell?_setCell_far _ _ _ _ hn).trans h)


set_option maxRecDepth 100000 in
set_option maxHeartbeats 4000000 in
theorem impl_join_c (w : World) (a c : Int) (n1 c1 n2 c2 : Nat) (A1 A2 : Option Addr) (xs ys : List Int) (ha : 0 ≤ a ∧ a ≤ 1099511627776) (hc : 0 ≤ c ∧ c ≤ 1099511627776) (hx : xs.length = n1) (hy : ys.length = n2) (h1 : 1 ≤ n1) (h2 : 1 ≤ n2) (hn1 : n1 ≤ 524288) (hn2 : n2 ≤ 524288)
    (s1 : Sl w w.heap.size A1 (xs.map (Value.int .i64))) (s2 : Sl w w.heap.size A2 (ys.map (Value.int .i64))) :
    Calls Try.prog 24 #[.agg #[.int .i64 a, .slice A1 n1 c1], .agg #[.int .i64 c, .slice A2 n2 c2]] w fun e w' => ∃ v, e = .returned (.agg #[.int .i64 (a + c), v]) ∧ w'.ownsRow w.heap.size 3 1 v (n1 + n2) ((xs ++ ys).map (Value.int .i64)) ∧ Below w.heap.size w w' := by
  obtain ⟨w1, e1⟩ : ∃ q : World, q = ((w.alloc (.cells #[.int .i64 a, .slice A1 n1 c1] 48)).alloc (.cells #[.int .i64 c, .slice A2 n2 c2] 48)).alloc (.cells #[.int .i64 0, .slice none 0 0] 48) := ⟨_, rfl⟩
  have b1 : Below w.heap.size w w1 := by rw [e1]; exact (((Below.refl _ _).alloc (Nat.le_refl _) _).alloc (by simp) _).alloc (by simp; omega) _
  have k0 : w1.cell? ⟨w.heap.size, 0, none⟩ = some (.int .i64 a) := by rw [e1]; (first | (simp; done) | (simp (disch := (first | (simp; done) | (simp; omega))) [World.cell?_alloc_at]; done) | (simp (disch := (first | (simp; done) | (simp; omega))) [World.cell?_alloc_past]; done) | (simp (disch := (first | (simp; done) | (simp; omega))) [World.cell?_alloc_at, World.cell?_alloc_past]; done) | (simp (disch := (first | (simp; done) | (simp; omega))) [World.frozen?_alloc_at]; done) | (simp (disch := (first | (simp; done) | (simp; omega))) [World.frozen?_alloc_past]; done) | (simp (disch := (first | (simp; done) | (simp; omega))) [World.frozen?_alloc_at, World.frozen?_alloc_past]; done))
  have k1 : w1.cell? ⟨w.heap.size, 1, none⟩ = some (.slice A1 n1 c1) := by rw [e1]; (first | (simp; done) | (simp (disch := (first | (simp; done) | (simp; omega))) [World.cell?_alloc_at]; done) | (simp (disch := (first | (simp; done) | (simp; omega))) [World.cell?_alloc_past]; done) | (simp (disch := (first | (simp; done) | (simp; omega))) [World.cell?_alloc_at, World.cell?_alloc_past]; done) | (simp (disch := (first | (simp; done) | (simp; omega))) [World.frozen?_alloc_at]; done) | (simp (disch := (first | (simp; done) | (simp; omega))) [World.frozen?_alloc_past]; done) | (simp (disch := (first | (simp; done) | (simp; omega))) [World.frozen?_alloc_at, World.frozen?_alloc_past]; done))
  have k2 : w1.cell? ⟨w.heap.size + 1, 0, none⟩ = some (.int .i64 c) := by rw [e1]; (first | (simp; done) | (simp (disch := (first | (simp; done) | (simp; omega))) [World.cell?_alloc_at]; done) | (simp (disch := (first | (simp; done) | (simp; omega))) [World.cell?_alloc_past]; done) | (simp (disch := (first | (simp; done) | (simp; omega))) [World.cell?_alloc_at, World.cell?_alloc_past]; done) | (simp (disch := (first | (simp; done) | (simp; omega))) [World.frozen?_alloc_at]; done) | (simp (disch := (first | (simp; done) | (simp; omega))) [World.frozen?_alloc_past]; done) | (simp (disch := (first | (simp; done) | (simp; omega))) [World.frozen?_alloc_at, World.frozen?_alloc_past]; done))
  have k3 : w1.cell? ⟨w.heap.size + 1, 1, none⟩ = some (.slice A2 n2 c2) := by rw [e1]; (first | (simp; done) | (simp (disch := (first | (simp; done) | (simp; omega))) [World.cell?_alloc_at]; done) | (simp (disch := (first | (simp; done) | (simp; omega))) [World.cell?_alloc_past]; done) | (simp (disch := (first | (simp; done) | (simp; omega))) [World.cell?_alloc_at, World.cell?_alloc_past]; done) | (simp (disch := (first | (simp; done) | (simp; omega))) [World.frozen?_alloc_at]; done) | (simp (disch := (first | (simp; done) | (simp; omega))) [World.frozen?_alloc_past]; done) | (simp (disch := (first | (simp; done) | (simp; omega))) [World.frozen?_alloc_at, World.frozen?_alloc_past]; done))
  have k4 : w1.cell? ⟨w.heap.size + 1 + 1, 0, none⟩ = some (.int .i64 0) := by rw [e1]; (first | (simp; done) | (simp (disch := (first | (simp; done) | (simp; omega))) [World.cell?_alloc_at]; done) | (simp (disch := (first | (simp; done) | (simp; omega))) [World.cell?_alloc_past]; done) | (simp (disch := (first | (simp; done) | (simp; omega))) [World.cell?_alloc_at, World.cell?_alloc_past]; done) | (simp (disch := (first | (simp; done) | (simp; omega))) [World.frozen?_alloc_at]; done) | (simp (disch := (first | (simp; done) | (simp; omega))) [World.frozen?_alloc_past]; done) | (simp (disch := (first | (simp; done) | (simp; omega))) [World.frozen?_alloc_at, World.frozen?_alloc_past]; done))
  have k5 : w1.cell? ⟨w.heap.size + 1 + 1, 1, none⟩ = some (.slice none 0 0) := by rw [e1]; (first | (simp; done) | (simp (disch := (first | (simp; done) | (simp; omega))) [World.cell?_alloc_at]; done) | (simp (disch := (first | (simp; done) | (simp; omega))) [World.cell?_alloc_past]; done) | (simp (disch := (first | (simp; done) | (simp; omega))) [World.cell?_alloc_at, World.cell?_alloc_past]; done) | (simp (disch := (first | (simp; done) | (simp; omega))) [World.frozen?_alloc_at]; done) | (simp (disch := (first | (simp; done) | (simp; omega))) [World.frozen?_alloc_past]; done) | (simp (disch := (first | (simp; done) | (simp; omega))) [World.frozen?_alloc_at, World.frozen?_alloc_past]; done))
  have f4 : w1.frozen? ⟨w.heap.size + 1 + 1, 0, none⟩ = false := by rw [e1]; (first | (simp; done) | (simp (disch := (first | (simp; done) | (simp; omega))) [World.cell?_alloc_at]; done) | (simp (disch := (first | (simp; done) | (simp; omega))) [World.cell?_alloc_past]; done) | (simp (disch := (first | (simp; done) | (simp; omega))) [World.cell?_alloc_at, World.cell?_alloc_past]; done) | (simp (disch := (first | (simp; done) | (simp; omega))) [World.frozen?_alloc_at]; done) | (simp (disch := (first | (simp; done) | (simp; omega))) [World.frozen?_alloc_past]; done) | (simp (disch := (first | (simp; done) | (simp; omega))) [World.frozen?_alloc_at, World.frozen?_alloc_past]; done))
  have f5 : w1.frozen? ⟨w.heap.size + 1 + 1, 1, none⟩ = false := by rw [e1]; (first | (simp; done) | (simp (disch := (first | (simp; done) | (simp; omega))) [World.cell?_alloc_at]; done) | (simp (disch := (first | (simp; done) | (simp; omega))) [World.cell?_alloc_past]; done) | (simp (disch := (first | (simp; done) | (simp; omega))) [World.cell?_alloc_at, World.cell?_alloc_past]; done) | (simp (disch := (first | (simp; done) | (simp; omega))) [World.frozen?_alloc_at]; done) | (simp (disch := (first | (simp; done) | (simp; omega))) [World.frozen?_alloc_past]; done) | (simp (disch := (first | (simp; done) | (simp; omega))) [World.frozen?_alloc_at, World.frozen?_alloc_past]; done))
  have z1 : w.heap.size + 3 ≤ w1.heap.size := by rw [e1]; simp
  have S1 := Lib.hid ((s1.below b1).more b1.size)
  have S2 := Lib.hid ((s2.below b1).more b1.size)
  have B1 := Lib.hid b1
  have HX := Lib.hid hx
  have HY := Lib.hid hy
  clear s1 s2 hx hy b1
  go_enter Try.func24, Try.ntmps24
  go_wp2_with (rw [← e1]; clear e1)
  obtain ⟨w2, e2⟩ : ∃ q : World, q = (w1.alloc (.cells #[.slice A1 n1 c1, .slice A2 n2 c2] 46)).drew := ⟨_, rfl⟩
  have b2 : Below w1.heap.size w1 w2 := by rw [e2]; exact below_drewN ((Below.refl _ _).alloc (Nat.le_refl _) _) 1
  have z2 : w2.heap.size = w1.heap.size + 1 := by rw [e2]; show (w1.alloc _).heap.size = _; simp
  have r1 : w2.cell? ⟨w1.heap.size, 0, none⟩ = some (.slice A1 n1 c1) := by rw [e2]; show (w1.alloc _).cell? _ = _; (first | (simp; done) | (simp (disch := (first | (simp; done) | (simp; omega))) [World.cell?_alloc_at]; done) | (simp (disch := (first | (simp; done) | (simp; omega))) [World.cell?_alloc_past]; done) | (simp (disch := (first | (simp; done) | (simp; omega))) [World.cell?_alloc_at, World.cell?_alloc_past]; done) | (simp (disch := (first | (simp; done) | (simp; omega))) [World.frozen?_alloc_at]; done) | (simp (disch := (first | (simp; done) | (simp; omega))) [World.frozen?_alloc_past]; done) | (simp (disch := (first | (simp; done) | (simp; omega))) [World.frozen?_alloc_at, World.frozen?_alloc_past]; done))
  have r2 : w2.cell? ⟨w1.heap.size, 1, none⟩ = some (.slice A2 n2 c2) := by rw [e2]; show (w1.alloc _).cell? _ = _; (first | (simp; done) | (simp (disch := (first | (simp; done) | (simp; omega))) [World.cell?_alloc_at]; done) | (simp (disch := (first | (simp; done) | (simp; omega))) [World.cell?_alloc_past]; done) | (simp (disch := (first | (simp; done) | (simp; omega))) [World.cell?_alloc_at, World.cell?_alloc_past]; done) | (simp (disch := (first | (simp; done) | (simp; omega))) [World.frozen?_alloc_at]; done) | (simp (disch := (first | (simp; done) | (simp; omega))) [World.frozen?_alloc_past]; done) | (simp (disch := (first | (simp; done) | (simp; omega))) [World.frozen?_alloc_at, World.frozen?_alloc_past]; done))
  have HC := Lib.hid (Concat_int_c w2 w1.heap.size 2 n1 c1 n2 c2 A1 A2 xs ys HX.out HY.out h1 h2 hn1 hn2 (by omega) r1 r2 ((S1.out.below b2).more (by omega)) ((S2.out.below b2).more (by omega)))
  have Z2 := Lib.hid z2
  have E2 := Lib.hid e2
  have B2 := Lib.hid b2
  have m0 := (b2.cell (p := ⟨w.heap.size, 0, none⟩) (by simp only []; omega)).trans k0
  have m1 := (b2.cell (p := ⟨w.heap.size, 1, none⟩) (by simp only []; omega)).trans k1
  have m2 := (b2.cell (p := ⟨w.heap.size + 1, 0, none⟩) (by simp only []; omega)).trans k2
  have m3 := (b2.cell (p := ⟨w.heap.size + 1, 1, none⟩) (by simp only []; omega)).trans k3
  rw [e2] at m0 m1 m2 m3
  clear e2 z2 b2 r1 r2
  have hwr : IntKind.i64.wrap (a + c) = a + c := IntWalk.i64_in _ (by omega)
  go_region_held3 (fun w' => (w'.cell? ⟨w.heap.size, 0, none⟩ = some (.int .i64 a) ∧ w'.cell? ⟨w.heap.size, 1, none⟩ = some (.slice A1 n1 c1)) ∧ w'.cell? ⟨w.heap.size + 1, 0, none⟩ = some (.int .i64 c) ∧ w'.cell? ⟨w.heap.size + 1, 1, none⟩ = some (.slice A2 n2 c2))
    (first | exact ⟨⟨n0, n1'⟩, n2', n3⟩ | exact ⟨⟨m0, m1⟩, m2, m3⟩ | exact ⟨⟨k0, k1⟩, k2, k3⟩ | exact ⟨⟨far2 n0 (by omega), far2 n1' (by omega)⟩, far2 n2' (by omega), far2 n3 (by omega)⟩ | fail)
    (first
      | (go_at_call 31; rw [← E2.out]; refine HC.out.mono ?_; rintro e w3 ⟨v, rfl, ho, b3⟩; obtain ⟨gv, cv, rfl⟩ := own_form ho (by omega); have b3 : Below w1.heap.size w1 w3 := B2.out.trans (b3.mono (by have := Z2.out; omega)); have n0 := (b3.cell (p := ⟨w.heap.size, 0, none⟩) (by simp only []; omega)).trans k0; have n1' := (b3.cell (p := ⟨w.heap.size, 1, none⟩) (by simp only []; omega)).trans k1; have n2' := (b3.cell (p := ⟨w.heap.size + 1, 0, none⟩) (by simp only []; omega)).trans k2; have n3 := (b3.cell (p := ⟨w.heap.size + 1, 1, none⟩) (by simp only []; omega)).trans k3; have n4 := (b3.cell (p := ⟨w.heap.size + 1 + 1, 0, none⟩) (by simp only []; omega)).trans k4; have n5 := (b3.cell (p := ⟨w.heap.size + 1 + 1, 1, none⟩) (by simp only []; omega)).trans k5; have p4 := (b3.frozen (p := ⟨w.heap.size + 1 + 1, 0, none⟩) (by simp only []; omega)).trans f4; have p5 := (b3.frozen (p := ⟨w.heap.size + 1 + 1, 1, none⟩) (by simp only []; omega)).trans f5))
  have hB3 := B1.out.trans (b3.mono (by omega))
  have ho1 := own_base (base' := w.heap.size) ho (by have := Z2.out; omega)
  have hlt3 : w1.heap.size ≤ w3.heap.size := b3.size
  have hgv : w2.heap.size ≤ gv := (ho.lt gv rfl).1
  have Z2' := Z2.out
  clear n0 n1' n2' n3 m0 m1 m2 m3 k0 k1 k2 k3 k4 k5 f4 f5
  go_wp2_with fail
  refine bodyPost_ret (v := .agg #[.int .i64 (a + c), .slice (some ⟨gv, 0, none⟩) (n1 + n2) cv]) (by unfold results; rw [Try.results24]; go_simp) rfl ?_
  refine ⟨_, rfl, ?_, ?_⟩
  · exact own_base (ownsRow_setCell_below (ownsRow_setCell_below ho (a := ⟨w.heap.size + 1 + 1, 0, none⟩) (by simp only []; omega) _) (a := ⟨w.heap.size + 1 + 1, 1, none⟩) (by simp only []; omega) _) (by omega)
  · exact (hB3.setCell (p := ⟨w.heap.size + 1 + 1, 0, none⟩) (by simp only []; omega) _).setCell (p := ⟨w.heap.size + 1 + 1, 1, none⟩) (by simp only []; omega) _

end Go.Proofs.Ytkmfjadlobpbkaa
