/-
  Contracts: the least bunch.
  Conditions: 1 to 1048576 bunches.
-/
import Derived.Test.YtcjgadepbbcjeaaMC
import Derived.Test.YtcjgadepbbcjeaaSC
import Derived.Deep.RegionHeld3
namespace Go.Proofs.Ytcjgadepbbcjeaa
open Go.RowKit

/-- a struct of two cells that may be written -/
def Two (W : World) (b : Nat) (u v : Value) : Prop :=
  (W.cell? ⟨b, 0, none⟩ = some u ∧ W.cell? ⟨b, 1, none⟩ = some v) ∧ W.frozen? ⟨b, 0, none⟩ = false ∧ W.frozen? ⟨b, 1, none⟩ = false
theorem Two.below {W W' : World} {B b : Nat} {u v : Value} (h : Two W b u v) (hb : Below B W W') (hB : b < B) : Two W' b u v :=
  ⟨⟨(hb.cell (p := ⟨b, 0, none⟩) hB).trans h.1.1, (hb.cell (p := ⟨b, 1, none⟩) hB).trans h.1.2⟩, (hb.frozen (p := ⟨b, 0, none⟩) hB).trans h.2.1, (hb.frozen (p := ⟨b, 1, none⟩) hB).trans h.2.2⟩

theorem cell_set_otherD (w : World) (a b : Addr) (v : Value) (h : a ≠ b) : (w.setCell a v).cell? b = w.cell? b := by
  first | exact World.cell?_setCell_other w h | exact World.cell?_setCell_other w v h | exact World.cell?_setCell_other w a b v h
theorem Two.put {W : World} {b : Nat} {u v u' v' : Value} (h : Two W b u v) : Two ((W.setCell ⟨b, 0, none⟩ u').setCell ⟨b, 1, none⟩ v') b u' v' := by
  have n1 : (⟨b, 1, none⟩ : Addr) ≠ ⟨b, 0, none⟩ := by intro h; injection h; omega
  refine ⟨⟨?_, ?_⟩, ?_, ?_⟩
  · rw [cell_set_otherD _ _ _ _ n1]; exact cell_set_same _ _ _ _ h.1.1
  · exact cell_set_same _ _ v _ (by rw [cell_set_otherD _ _ _ _ n1.symm]; exact h.1.2)
  · rw [frozen_set, frozen_set]; exact h.2.1
  · rw [frozen_set, frozen_set]; exact h.2.2
theorem Two.putOther {W : World} {b c p q : Nat} {u v x y : Value} (h : Two W b u v) (hc : c ≠ b) : Two ((W.setCell ⟨c, p, none⟩ x).setCell ⟨c, q, none⟩ y) b u v := by
  have n1 : ∀ o r, (⟨c, o, none⟩ : Addr) ≠ ⟨b, r, none⟩ := by intro o r h; injection h; omega
  refine ⟨⟨?_, ?_⟩, ?_, ?_⟩
  · rw [cell_set_otherD _ _ _ _ (n1 _ _), cell_set_otherD _ _ _ _ (n1 _ _)]; exact h.1.1
  · rw [cell_set_otherD _ _ _ _ (n1 _ _), cell_set_otherD _ _ _ _ (n1 _ _)]; exact h.1.2
  · rw [frozen_set, frozen_set]; exact h.2.1
  · rw [frozen_set, frozen_set]; exact h.2.2


set_option maxRecDepth 100000 in
set_option maxHeartbeats 1000000 in
theorem MinFunc_bunch_c (w : World) (b off n cap : Nat) (ws : List Int) (us : List Value) (hl : ws.length = n) (h1 : 1 ≤ n) (hn : n ≤ 1048576) (hb : Bun w w.heap.size b off ws us) (hs : ∀ u ∈ us, ∃ A k c, u = .slice A k c) :
    Calls Try.prog 24 #[.slice (some ⟨b, off, none⟩) n cap, .func (.func 25) #[] #[]] w fun e w' => e = .returned (.agg #[.int .i64 (ws.getD (leastI ws) 0), us.getD (leastI ws) undef]) ∧ Below w.heap.size w w' := by
  obtain ⟨w1, e1⟩ : ∃ q : World, q = w.alloc (.cells #[.int .i64 0, .slice none 0 0] 42) := ⟨_, rfl⟩
  have b1 : Below w.heap.size w w1 := by rw [e1]; exact (Below.refl _ _).alloc (Nat.le_refl _) _
  have z1 : w1.heap.size = w.heap.size + 1 := by rw [e1]; simp
  have TW : Hid (Two w1 w.heap.size (.int .i64 0) (.slice none 0 0)) := Lib.hid (by rw [e1]; refine ⟨⟨?_, ?_⟩, ?_, ?_⟩ <;> (first | (simp; done) | (simp (disch := (first | (simp; done) | (simp; omega))) [World.cell?_alloc_at]; done) | (simp (disch := (first | (simp; done) | (simp; omega))) [World.cell?_alloc_past]; done) | (simp (disch := (first | (simp; done) | (simp; omega))) [World.cell?_alloc_at, World.cell?_alloc_past]; done) | (simp (disch := (first | (simp; done) | (simp; omega))) [World.frozen?_alloc_at]; done) | (simp (disch := (first | (simp; done) | (simp; omega))) [World.frozen?_alloc_past]; done) | (simp (disch := (first | (simp; done) | (simp; omega))) [World.frozen?_alloc_at, World.frozen?_alloc_past]; done)))
  obtain ⟨k1, k2⟩ := (hb.below b1).2.2 0 (by omega)
  have hju : 0 < us.length := by rw [hb.2.1]; omega
  obtain ⟨A, q, d, hu⟩ := hs us[0] (List.getElem_mem hju)
  have hgu : us.getD 0 undef = .slice A q d := by rw [← hu]; simp [List.getD, hju]
  rw [hgu] at k2
  simp only [Nat.zero_mul, Nat.add_zero] at k1 k2
  obtain ⟨a0, ea0⟩ : ∃ a, ws.getD 0 0 = a := ⟨_, rfl⟩
  rw [ea0] at k1
  have HEA0 := Lib.hid ea0
  clear ea0
  have HB := Lib.hid hb
  have HS := Lib.hid hs
  have HGU := Lib.hid hgu
  have n1d : decide ((n : Int) < 1) = false := decide_eq_false (by omega)
  clear hb hs hu hgu
  go_enter Try.func24, Try.ntmps24
  go_wp2_with (rw [← e1]; clear e1)
  go_loopw [6] (fun i wr => ∃ j : Nat, j + 1 ≤ n ∧ i = .int .i64 ((j + 1 : Nat) : Int) ∧ Below w.heap.size w wr ∧ w.heap.size + 2 ≤ wr.heap.size ∧ Two wr w.heap.size (.int .i64 0) (.slice none 0 0) ∧ Two wr (w.heap.size + 1) (.int .i64 (ws.getD (leastK ws j) 0)) (us.getD (leastK ws j) undef)) (fun i _ => n - (intOf i).toNat)
  case atStart =>
    refine ⟨0, by omega, rfl, b1.alloc (by omega) _, by simp; omega, ?_, ?_⟩
    · exact TW.out.below ((Below.refl _ _).alloc (Nat.le_refl _) _) (by omega)
    · show Two _ _ (.int .i64 (ws.getD 0 0)) (us.getD 0 undef)
      rw [HEA0.out, HGU.out, ← z1]
      refine ⟨⟨?_, ?_⟩, ?_, ?_⟩ <;> (first | (simp; done) | (simp (disch := (first | (simp; done) | (simp; omega))) [World.cell?_alloc_at]; done) | (simp (disch := (first | (simp; done) | (simp; omega))) [World.cell?_alloc_past]; done) | (simp (disch := (first | (simp; done) | (simp; omega))) [World.cell?_alloc_at, World.cell?_alloc_past]; done) | (simp (disch := (first | (simp; done) | (simp; omega))) [World.frozen?_alloc_at]; done) | (simp (disch := (first | (simp; done) | (simp; omega))) [World.frozen?_alloc_past]; done) | (simp (disch := (first | (simp; done) | (simp; omega))) [World.frozen?_alloc_at, World.frozen?_alloc_past]; done))
  case round =>
    obtain ⟨j, hj, rfl, hbw, hzw, T4, T5⟩ := hrel
    have hju2 : leastK ws j < us.length := by have := leastK_le ws j; rw [HB.out.2.1]; omega
    have hstep : leastK ws (j + 1) = if ws.getD (j + 1) 0 < ws.getD (leastK ws j) 0 then j + 1 else leastK ws j := rfl
    obtain ⟨L, eL⟩ : ∃ L, leastK ws j = L := ⟨_, rfl⟩
    rw [eL] at hju2 hstep T5
    obtain ⟨A2, q2, d2, hu2⟩ := HS.out us[L] (List.getElem_mem hju2)
    have hg2 : us.getD L undef = .slice A2 q2 d2 := by rw [← hu2]; simp [List.getD, hju2]
    rw [hg2] at T5
    obtain ⟨y, ey⟩ : ∃ a, ws.getD L 0 = a := ⟨_, rfl⟩
    rw [ey] at T5 hstep
    have HEY := Lib.hid ey
    have HG2 := Lib.hid hg2
    have HEL := Lib.hid eL
    clear ey hg2 hu2 eL
    have H4 := Lib.hid T4
    have H5 := Lib.hid T5
    obtain ⟨⟨c1, c2⟩, f1, f2⟩ := T5
    obtain ⟨⟨s1, s2⟩, g1, g2⟩ := T4
    obtain ⟨m, em⟩ : ∃ m, j + 1 = m := ⟨_, rfl⟩
    rw [em] at hj hstep ⊢
    have HM := Lib.hid em
    have hm1 : 1 ≤ m := by omega
    clear em
    by_cases hlt : m < n
    · obtain ⟨k1, k2⟩ := (HB.out.below hbw).2.2 m (by omega)
      have hju3 : m < us.length := by rw [HB.out.2.1]; omega
      obtain ⟨A3, q3, d3, hu3⟩ := HS.out us[m] (List.getElem_mem hju3)
      have hg3 : us.getD m undef = .slice A3 q3 d3 := by rw [← hu3]; simp [List.getD, hju3]
      rw [hg3] at k2
      obtain ⟨x, ex⟩ : ∃ a, ws.getD m 0 = a := ⟨_, rfl⟩
      rw [ex] at k1 hstep
      have HEX := Lib.hid ex
      have HG3 := Lib.hid hg3
      have HST := Lib.hid hstep
      have HW : Hid (∀ W : World, Calls Try.prog 25 #[.agg #[.int .i64 x, .slice A3 q3 d3], .agg #[.int .i64 y, .slice A2 q2 d2]] W fun e w' => e = .returned (.int .i64 (cmpI x y)) ∧ Below W.heap.size W w') := Lib.hid (fun W => impl_byWeight_c W x y (.slice A3 q3 d3) (.slice A2 q2 d2))
      have hbb := HB.out.1
      have hcm : (x < y → cmpI x y < 0) ∧ (¬ x < y → ¬ cmpI x y < 0) := by
        unfold cmpI
        refine ⟨fun h => by rw [if_pos h]; omega, fun h => by rw [if_neg h]; split <;> omega⟩
      obtain ⟨z, ez⟩ : ∃ z, cmpI x y = z := ⟨_, rfl⟩
      rw [ez] at HW hcm
      clear ex hg3 hu3 hstep ez
      by_cases hxy : x < y
      · have hz0 : decide (z < 0) = true := decide_eq_true (hcm.1 hxy)
        have HXY := Lib.hid hxy
        clear hcm hxy
        go_wp2_with fail
        go_region_held3 (fun w' => (w'.cell? ⟨b, off + m * 2, none⟩ = some (.int .i64 x) ∧ w'.cell? ⟨b, off + m * 2 + 1, none⟩ = some (.slice A3 q3 d3)) ∧ w'.cell? ⟨w.heap.size + 1, 0, none⟩ = some (.int .i64 y) ∧ w'.cell? ⟨w.heap.size + 1, 1, none⟩ = some (.slice A2 q2 d2))
          (first | exact ⟨⟨m1, m2⟩, n1, n2⟩ | exact ⟨⟨k1, k2⟩, c1, c2⟩)
          (first
            | (go_at_call 25; refine (HW.out _).mono ?_; rintro e w2 ⟨rfl, b2⟩; have b2 := below_undrew b2; have m1 := (b2.cell (p := ⟨b, off + m * 2, none⟩) (by simp only []; omega)).trans k1; have m2 := (b2.cell (p := ⟨b, off + m * 2 + 1, none⟩) (by simp only []; omega)).trans k2; have n1 := (b2.cell (p := ⟨w.heap.size + 1, 0, none⟩) (by simp only []; omega)).trans c1; have n2 := (b2.cell (p := ⟨w.heap.size + 1, 1, none⟩) (by simp only []; omega)).trans c2))
        have p1 := (b2.frozen (p := ⟨w.heap.size + 1, 0, none⟩) (by simp only []; omega)).trans f1
        have p2 := (b2.frozen (p := ⟨w.heap.size + 1, 1, none⟩) (by simp only []; omega)).trans f2
        have z2 := b2.size
        have T4 := H4.out.below b2 (by omega)
        clear c1 c2 f1 f2 s1 s2 g1 g2 k1 k2
        go_wp2_with fail
        go_roundw
        case rel =>
          refine ⟨m, by omega, by go_num, ?_, by simp; omega, ?_, ?_⟩
          · iterate 2 (refine Below.setCell ?_ (by simp <;> omega) _)
            exact hbw.trans (b2.mono (by omega))
          · exact T4.putOther (by omega)
          · have hL : leastK ws m = m := by rw [HST.out, if_pos HXY.out]
            rw [hL, HEX.out, HG3.out]
            exact (H5.out.below b2 (by omega)).put
        case measure => simp [intOf]; omega
      · have hz0 : decide (z < 0) = false := decide_eq_false (hcm.2 hxy)
        have HXY := Lib.hid hxy
        clear hcm hxy
        go_wp2_with fail
        go_region_held3 (fun w' => (w'.cell? ⟨b, off + m * 2, none⟩ = some (.int .i64 x) ∧ w'.cell? ⟨b, off + m * 2 + 1, none⟩ = some (.slice A3 q3 d3)) ∧ w'.cell? ⟨w.heap.size + 1, 0, none⟩ = some (.int .i64 y) ∧ w'.cell? ⟨w.heap.size + 1, 1, none⟩ = some (.slice A2 q2 d2))
          (first | exact ⟨⟨m1, m2⟩, n1, n2⟩ | exact ⟨⟨k1, k2⟩, c1, c2⟩)
          (first
            | (go_at_call 25; refine (HW.out _).mono ?_; rintro e w2 ⟨rfl, b2⟩; have b2 := below_undrew b2; have m1 := (b2.cell (p := ⟨b, off + m * 2, none⟩) (by simp only []; omega)).trans k1; have m2 := (b2.cell (p := ⟨b, off + m * 2 + 1, none⟩) (by simp only []; omega)).trans k2; have n1 := (b2.cell (p := ⟨w.heap.size + 1, 0, none⟩) (by simp only []; omega)).trans c1; have n2 := (b2.cell (p := ⟨w.heap.size + 1, 1, none⟩) (by simp only []; omega)).trans c2))
        have z2 := b2.size
        have T4 := H4.out.below b2 (by omega)
        have T5 := H5.out.below b2 (by omega)
        clear c1 c2 f1 f2 s1 s2 g1 g2 k1 k2
        go_wp2_with fail
        go_roundw
        case rel =>
          refine ⟨m, by omega, by go_num, hbw.trans (b2.mono (by omega)), by omega, T4, ?_⟩
          have hL : leastK ws m = L := by rw [HST.out, if_neg (by have := HXY.out; omega)]
          rw [hL, HEY.out, HG2.out]
          exact T5
        case measure => simp [intOf]; omega
    · obtain rfl : n = m := by omega
      clear hstep
      go_wp2_with fail
      refine bodyPost_ret (v := .agg #[.int .i64 y, .slice A2 q2 d2]) (by unfold results; rw [Try.results24]; go_simp) rfl ?_
      refine ⟨?_, ?_⟩
      · have : leastI ws = L := by unfold leastI; rw [hl, ← HM.out, Nat.add_sub_cancel]; exact HEL.out
        rw [this, HEY.out, HG2.out]
      · iterate 2 (refine Below.setCell ?_ (by simp <;> omega) _)
        exact hbw

end Go.Proofs.Ytcjgadepbbcjeaa
