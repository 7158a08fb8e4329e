/-
  FnExactBoundedCode: the law's walk.
  Conditions: none beyond the given statement's own.
-/
import Derived.Test.YtkmfjadlobpbkaaBN
import Derived.Test.YtkmfjadlobpbkaaCM
namespace Go.Proofs.Ytkmfjadlobpbkaa
open Go.RowKit

set_option maxRecDepth 100000 in
set_option maxHeartbeats 4000000 in
theorem law_BoundedCode (w : World) (A0 : Option Addr) (n0 cap0 : Nat) (x0 : List Int) (hl0 : x0.length = n0) (hm0 : n0 ≤ maxLen) (hx0 : Sl w w.heap.size A0 (x0.map (Value.int .i64))) (b : Int) :
    Calls Try.prog 3 #[.slice A0 n0 cap0, .int .i64 b] w fun e w' => e = .returned (.bool true) ∧ Below w.heap.size w w' := by
  unfold maxLen at hm0
  rcases Nat.lt_or_ge 1048576 n0 with hn0 | hn0
  · go_enter Try.func3, Try.ntmps3
    go_wp2
    go_ret
    exact ⟨rfl, Below.refl _ _⟩
  have hq : ∀ b : Bool, (b == b) = true := fun b => by simp
  have HSPEC := Lib.hid (fun (W : World) A n k (hA : n = n0) hs => spec_BoundedCode_c W A n k x0 (by rw [hA]; exact hl0) (by omega) hs b)
  have HIMPL := Lib.hid (fun (W : World) A n k (hA : n = n0) hs => impl_BoundedCode_c W A n k x0 (by rw [hA]; exact hl0) (by omega) hs b)
  unfold BcPost at HSPEC HIMPL
  have hln := boundedV_len x0 b
  obtain ⟨⟨xs, b0⟩, hd⟩ : ∃ d, boundedV x0 b = d := ⟨_, rfl⟩
  rw [hd] at HSPEC HIMPL hln
  simp only at HSPEC HIMPL hln
  clear hd
  obtain ⟨n, hn⟩ : ∃ n, xs.length = n := ⟨_, rfl⟩
  rw [hn] at hln
  have HX0 := Lib.hid hx0
  clear hx0
  go_enter Try.func3, Try.ntmps3
  go_wp2_with fail
  refine (toInt64S_c _ A0 n0 cap0 x0 hl0 hn0 HX0.out).mono ?_
  rintro e w1 ⟨v, rfl, ho, hb⟩
  have zw1 := hb.size
  have Bw1 := hb
  obtain ⟨S1, k1, rfl, hp⟩ := ho.opn
  rw [hl0] at hp
  rw [hl0]
  have HI1 := Lib.hid (own_in hp)
  have HP1 := Lib.hid hp
  clear ho hp hb
  go_wp2_with fail
  refine (HSPEC.out w1 S1 n0 k1 rfl (sl_of_own HP1.out)).mono ?_
  rintro e w2 ⟨v, rfl, ho, hb⟩
  have zw2 := hb.size
  have HP1 := Lib.hid (own_below HP1.out hb (Nat.le_refl _))
  have Bw2 := Bw1.trans (hb.mono (by omega))
  obtain ⟨S2, k2, rfl, hp⟩ := ho.opn
  rw [hn] at hp ⊢
  have HI2 := Lib.hid (own_in hp)
  have HP2 := Lib.hid hp
  clear ho hp hb
  obtain ⟨w3, e2⟩ : ∃ q : World, q = w2.alloc (.cells #[.slice S2 n k2] 24) := ⟨_, rfl⟩
  have hb : Below w2.heap.size w2 w3 := by rw [e2]; exact (Below.refl _ _).alloc (Nat.le_refl _) _
  have c2x : w3.cell? ⟨w2.heap.size, 0, none⟩ = some (.slice S2 n k2) := by rw [e2]; (first | (simp; done) | (simp (disch := (first | (simp; done) | (simp; omega))) [World.cell?_alloc_at]; done) | (simp (disch := (first | (simp; done) | (simp; omega))) [World.cell?_alloc_past]; done) | (simp (disch := (first | (simp; done) | (simp; omega))) [World.cell?_alloc_at, World.cell?_alloc_past]; done) | (simp (disch := (first | (simp; done) | (simp; omega))) [World.frozen?_alloc_at]; done) | (simp (disch := (first | (simp; done) | (simp; omega))) [World.frozen?_alloc_past]; done) | (simp (disch := (first | (simp; done) | (simp; omega))) [World.frozen?_alloc_at, World.frozen?_alloc_past]; done))
  have zw3 : w3.heap.size = w2.heap.size + 1 := by rw [e2]; simp
  have HP1 := Lib.hid (own_below HP1.out hb (Nat.le_refl _))
  have HP2 := Lib.hid (own_below HP2.out hb (Nat.le_refl _))
  have Bw3 := Bw2.trans (hb.mono (by omega))
  have c2 := c2x
  clear c2x hb
  go_wp2_with (rw [← e2]; clear e2)
  have ltw3 : w2.heap.size < w3.heap.size := by omega
  refine (toInt64S_c _ A0 n0 cap0 x0 hl0 hn0 ((HX0.out.below Bw3).more Bw3.size)).mono ?_
  rintro e w4 ⟨v, rfl, ho, hb⟩
  have zw4 := hb.size
  have HP1 := Lib.hid (own_below HP1.out hb (Nat.le_refl _))
  have HP2 := Lib.hid (own_below HP2.out hb (Nat.le_refl _))
  have c2 := (hb.cell (p := ⟨w2.heap.size, 0, none⟩) (by simp only []; omega)).trans c2
  have Bw4 := Bw3.trans (hb.mono (by omega))
  obtain ⟨S3, k3, rfl, hp⟩ := ho.opn
  rw [hl0] at hp
  rw [hl0]
  have HI3 := Lib.hid (own_in hp)
  have HP3 := Lib.hid hp
  clear ho hp hb
  go_wp2_with fail
  refine (HIMPL.out w4 S3 n0 k3 rfl (sl_of_own HP3.out)).mono ?_
  rintro e w5 ⟨v, rfl, ho, hb⟩
  have zw5 := hb.size
  have HP1 := Lib.hid (own_below HP1.out hb (Nat.le_refl _))
  have HP2 := Lib.hid (own_below HP2.out hb (Nat.le_refl _))
  have HP3 := Lib.hid (own_below HP3.out hb (Nat.le_refl _))
  have c2 := (hb.cell (p := ⟨w2.heap.size, 0, none⟩) (by simp only []; omega)).trans c2
  have Bw5 := Bw4.trans (hb.mono (by omega))
  obtain ⟨S4, k4, rfl, hp⟩ := ho.opn
  rw [hn] at hp ⊢
  have HI4 := Lib.hid (own_in hp)
  have HP4 := Lib.hid hp
  clear ho hp hb
  obtain ⟨w6, e2⟩ : ∃ q : World, q = w5.alloc (.cells #[.slice S4 n k4] 24) := ⟨_, rfl⟩
  have hb : Below w5.heap.size w5 w6 := by rw [e2]; exact (Below.refl _ _).alloc (Nat.le_refl _) _
  have c4x : w6.cell? ⟨w5.heap.size, 0, none⟩ = some (.slice S4 n k4) := by rw [e2]; (first | (simp; done) | (simp (disch := (first | (simp; done) | (simp; omega))) [World.cell?_alloc_at]; done) | (simp (disch := (first | (simp; done) | (simp; omega))) [World.cell?_alloc_past]; done) | (simp (disch := (first | (simp; done) | (simp; omega))) [World.cell?_alloc_at, World.cell?_alloc_past]; done) | (simp (disch := (first | (simp; done) | (simp; omega))) [World.frozen?_alloc_at]; done) | (simp (disch := (first | (simp; done) | (simp; omega))) [World.frozen?_alloc_past]; done) | (simp (disch := (first | (simp; done) | (simp; omega))) [World.frozen?_alloc_at, World.frozen?_alloc_past]; done))
  have zw6 : w6.heap.size = w5.heap.size + 1 := by rw [e2]; simp
  have HP1 := Lib.hid (own_below HP1.out hb (Nat.le_refl _))
  have HP2 := Lib.hid (own_below HP2.out hb (Nat.le_refl _))
  have HP3 := Lib.hid (own_below HP3.out hb (Nat.le_refl _))
  have HP4 := Lib.hid (own_below HP4.out hb (Nat.le_refl _))
  have c2 := (hb.cell (p := ⟨w2.heap.size, 0, none⟩) (by simp only []; omega)).trans c2
  have Bw6 := Bw5.trans (hb.mono (by omega))
  have c4 := c4x
  clear c4x hb
  go_wp2_with (rw [← e2]; clear e2)
  have ltw6 : w5.heap.size < w6.heap.size := by omega
  refine (eqCode_t w6 S4 S2 n k4 k2 xs hn (Nat.le_trans hln (by decide)) (sl_of_own HP4.out) (sl_of_own HP2.out)).mono ?_
  rintro e w7 ⟨rfl, hb⟩
  have zw7 := hb.size
  have HP1 := Lib.hid (own_below HP1.out hb (Nat.le_refl _))
  have HP2 := Lib.hid (own_below HP2.out hb (Nat.le_refl _))
  have HP3 := Lib.hid (own_below HP3.out hb (Nat.le_refl _))
  have HP4 := Lib.hid (own_below HP4.out hb (Nat.le_refl _))
  have c2 := (hb.cell (p := ⟨w2.heap.size, 0, none⟩) (by simp only []; omega)).trans c2
  have c4 := (hb.cell (p := ⟨w5.heap.size, 0, none⟩) (by simp only []; omega)).trans c4
  have Bw7 := Bw6.trans (hb.mono (by omega))
  clear hb
  go_wp2_with fail
  refine (toInt64S_c _ A0 n0 cap0 x0 hl0 hn0 ((HX0.out.below Bw7).more Bw7.size)).mono ?_
  rintro e w8 ⟨v, rfl, ho, hb⟩
  have zw8 := hb.size
  have HP1 := Lib.hid (own_below HP1.out hb (Nat.le_refl _))
  have HP2 := Lib.hid (own_below HP2.out hb (Nat.le_refl _))
  have HP3 := Lib.hid (own_below HP3.out hb (Nat.le_refl _))
  have HP4 := Lib.hid (own_below HP4.out hb (Nat.le_refl _))
  have c2 := (hb.cell (p := ⟨w2.heap.size, 0, none⟩) (by simp only []; omega)).trans c2
  have c4 := (hb.cell (p := ⟨w5.heap.size, 0, none⟩) (by simp only []; omega)).trans c4
  have Bw8 := Bw7.trans (hb.mono (by omega))
  obtain ⟨S5, k5, rfl, hp⟩ := ho.opn
  rw [hl0] at hp
  rw [hl0]
  have HI5 := Lib.hid (own_in hp)
  have HP5 := Lib.hid hp
  clear ho hp hb
  go_wp2_with fail
  refine (calls_grow (eqInt64S_t _ S3 S5 _ k3 k5 _ _ x0 hl0 (by omega) (sl_of_own HP3.out) (sl_of_own HP5.out))).mono ?_
  rintro e w9 ⟨rfl, hb⟩
  have zw9 := hb.size
  have HP1 := Lib.hid (own_below HP1.out hb (Nat.le_refl _))
  have HP2 := Lib.hid (own_below HP2.out hb (Nat.le_refl _))
  have HP3 := Lib.hid (own_below HP3.out hb (Nat.le_refl _))
  have HP4 := Lib.hid (own_below HP4.out hb (Nat.le_refl _))
  have HP5 := Lib.hid (own_below HP5.out hb (Nat.le_refl _))
  have c2 := (hb.cell (p := ⟨w2.heap.size, 0, none⟩) (by simp only []; omega)).trans c2
  have c4 := (hb.cell (p := ⟨w5.heap.size, 0, none⟩) (by simp only []; omega)).trans c4
  have Bw9 := Bw8.trans (hb.mono (by omega))
  clear hb
  go_wp2_with fail
  refine (markInt64S_c _ _ S3 n0 k3 _ (by omega) 1 (by decide) (by decide) HP3.out).mono ?_
  rintro e w10 ⟨rfl, hm, hg⟩
  have zw10 := hg.size
  have HP1 := Lib.hid (own_apart HP1.out hg HI1.out HI3.out (by omega))
  have HP2 := Lib.hid (own_apart HP2.out hg HI2.out HI3.out (by omega))
  have HP4 := Lib.hid (own_apart HP4.out hg HI4.out HI3.out (by omega))
  have HP5 := Lib.hid (own_apart HP5.out hg HI5.out HI3.out (by omega))
  have HP3 := Lib.hid hm
  have c2 := (cell_apartS hg HI3.out (p := ⟨w2.heap.size, 0, none⟩) (by simp only []; omega) (by simp only []; omega)).trans c2
  have c4 := (cell_apartS hg HI3.out (p := ⟨w5.heap.size, 0, none⟩) (by simp only []; omega) (by simp only []; omega)).trans c4
  have Bw10 : Below w.heap.size w w10 := below_marked Bw9 hg HI3.out (by omega) (by omega)
  have hkw10 : (0 : Int) ≤ 1 + (n0 : Nat) := by omega
  clear hm hg
  go_wp2_with fail
  refine (eqCode_t w10 S4 S2 n k4 k2 xs hn (Nat.le_trans hln (by decide)) (sl_of_own HP4.out) (sl_of_own HP2.out)).mono ?_
  rintro e w11 ⟨rfl, hb⟩
  have zw11 := hb.size
  have HP1 := Lib.hid (own_below HP1.out hb (Nat.le_refl _))
  have HP2 := Lib.hid (own_below HP2.out hb (Nat.le_refl _))
  have HP3 := Lib.hid (own_below HP3.out hb (Nat.le_refl _))
  have HP4 := Lib.hid (own_below HP4.out hb (Nat.le_refl _))
  have HP5 := Lib.hid (own_below HP5.out hb (Nat.le_refl _))
  have c2 := (hb.cell (p := ⟨w2.heap.size, 0, none⟩) (by simp only []; omega)).trans c2
  have c4 := (hb.cell (p := ⟨w5.heap.size, 0, none⟩) (by simp only []; omega)).trans c4
  have Bw11 := Bw10.trans (hb.mono (by omega))
  clear hb
  go_wp2_with fail
  refine (markCode_c w11 _ S4 n k4 _ (Nat.le_trans hln (by decide)) 1 (by decide) (by decide) HP4.out).mono ?_
  rintro e w12 ⟨rfl, hm, hg⟩
  have zw12 := hg.size
  have HP1 := Lib.hid (own_apart HP1.out hg HI1.out HI4.out (by omega))
  have HP2 := Lib.hid (own_apart HP2.out hg HI2.out HI4.out (by omega))
  have HP3 := Lib.hid (own_apart HP3.out hg HI3.out HI4.out (by omega))
  have HP5 := Lib.hid (own_apart HP5.out hg HI5.out HI4.out (by omega))
  have HP4 := Lib.hid hm
  have c2 := (cell_apartS hg HI4.out (p := ⟨w2.heap.size, 0, none⟩) (by simp only []; omega) (by simp only []; omega)).trans c2
  have c4 := (cell_apartS hg HI4.out (p := ⟨w5.heap.size, 0, none⟩) (by simp only []; omega) (by simp only []; omega)).trans c4
  have Bw12 : Below w.heap.size w w12 := below_marked Bw11 hg HI4.out (by omega) (by omega)
  have hkw12 : (0 : Int) ≤ 1 + (n : Nat) := by omega
  clear hm hg
  go_wp2_with fail
  refine (heldCode_c w12 S4 n k4 (Nat.le_trans hln (by decide)) 1 (by decide) (by decide) (sl_of_own HP4.out)).mono ?_
  rintro e w13 ⟨rfl, hb⟩
  have zw13 := hb.size
  have HP1 := Lib.hid (own_below HP1.out hb (Nat.le_refl _))
  have HP2 := Lib.hid (own_below HP2.out hb (Nat.le_refl _))
  have HP3 := Lib.hid (own_below HP3.out hb (Nat.le_refl _))
  have HP4 := Lib.hid (own_below HP4.out hb (Nat.le_refl _))
  have HP5 := Lib.hid (own_below HP5.out hb (Nat.le_refl _))
  have c2 := (hb.cell (p := ⟨w2.heap.size, 0, none⟩) (by simp only []; omega)).trans c2
  have c4 := (hb.cell (p := ⟨w5.heap.size, 0, none⟩) (by simp only []; omega)).trans c4
  have Bw13 := Bw12.trans (hb.mono (by omega))
  clear hb
  go_wp2_with fail
  refine (toInt64S_c _ A0 n0 cap0 x0 hl0 hn0 ((HX0.out.below Bw13).more Bw13.size)).mono ?_
  rintro e w14 ⟨v, rfl, ho, hb⟩
  have zw14 := hb.size
  have HP1 := Lib.hid (own_below HP1.out hb (Nat.le_refl _))
  have HP2 := Lib.hid (own_below HP2.out hb (Nat.le_refl _))
  have HP3 := Lib.hid (own_below HP3.out hb (Nat.le_refl _))
  have HP4 := Lib.hid (own_below HP4.out hb (Nat.le_refl _))
  have HP5 := Lib.hid (own_below HP5.out hb (Nat.le_refl _))
  have c2 := (hb.cell (p := ⟨w2.heap.size, 0, none⟩) (by simp only []; omega)).trans c2
  have c4 := (hb.cell (p := ⟨w5.heap.size, 0, none⟩) (by simp only []; omega)).trans c4
  have Bw14 := Bw13.trans (hb.mono (by omega))
  obtain ⟨S6, k6, rfl, hp⟩ := ho.opn
  rw [hl0] at hp
  rw [hl0]
  have HI6 := Lib.hid (own_in hp)
  have HP6 := Lib.hid hp
  clear ho hp hb
  go_wp2_with fail
  refine (HIMPL.out w14 S6 n0 k6 rfl (sl_of_own HP6.out)).mono ?_
  rintro e w15 ⟨v, rfl, ho, hb⟩
  have zw15 := hb.size
  have HP1 := Lib.hid (own_below HP1.out hb (Nat.le_refl _))
  have HP2 := Lib.hid (own_below HP2.out hb (Nat.le_refl _))
  have HP3 := Lib.hid (own_below HP3.out hb (Nat.le_refl _))
  have HP4 := Lib.hid (own_below HP4.out hb (Nat.le_refl _))
  have HP5 := Lib.hid (own_below HP5.out hb (Nat.le_refl _))
  have HP6 := Lib.hid (own_below HP6.out hb (Nat.le_refl _))
  have c2 := (hb.cell (p := ⟨w2.heap.size, 0, none⟩) (by simp only []; omega)).trans c2
  have c4 := (hb.cell (p := ⟨w5.heap.size, 0, none⟩) (by simp only []; omega)).trans c4
  have Bw15 := Bw14.trans (hb.mono (by omega))
  obtain ⟨S7, k7, rfl, hp⟩ := ho.opn
  rw [hn] at hp ⊢
  have HI7 := Lib.hid (own_in hp)
  have HP7 := Lib.hid hp
  clear ho hp hb
  obtain ⟨w16, e2⟩ : ∃ q : World, q = w15.alloc (.cells #[.slice S7 n k7] 24) := ⟨_, rfl⟩
  have hb : Below w15.heap.size w15 w16 := by rw [e2]; exact (Below.refl _ _).alloc (Nat.le_refl _) _
  have c7x : w16.cell? ⟨w15.heap.size, 0, none⟩ = some (.slice S7 n k7) := by rw [e2]; (first | (simp; done) | (simp (disch := (first | (simp; done) | (simp; omega))) [World.cell?_alloc_at]; done) | (simp (disch := (first | (simp; done) | (simp; omega))) [World.cell?_alloc_past]; done) | (simp (disch := (first | (simp; done) | (simp; omega))) [World.cell?_alloc_at, World.cell?_alloc_past]; done) | (simp (disch := (first | (simp; done) | (simp; omega))) [World.frozen?_alloc_at]; done) | (simp (disch := (first | (simp; done) | (simp; omega))) [World.frozen?_alloc_past]; done) | (simp (disch := (first | (simp; done) | (simp; omega))) [World.frozen?_alloc_at, World.frozen?_alloc_past]; done))
  have zw16 : w16.heap.size = w15.heap.size + 1 := by rw [e2]; simp
  have HP1 := Lib.hid (own_below HP1.out hb (Nat.le_refl _))
  have HP2 := Lib.hid (own_below HP2.out hb (Nat.le_refl _))
  have HP3 := Lib.hid (own_below HP3.out hb (Nat.le_refl _))
  have HP4 := Lib.hid (own_below HP4.out hb (Nat.le_refl _))
  have HP5 := Lib.hid (own_below HP5.out hb (Nat.le_refl _))
  have HP6 := Lib.hid (own_below HP6.out hb (Nat.le_refl _))
  have HP7 := Lib.hid (own_below HP7.out hb (Nat.le_refl _))
  have c2 := (hb.cell (p := ⟨w2.heap.size, 0, none⟩) (by simp only []; omega)).trans c2
  have c4 := (hb.cell (p := ⟨w5.heap.size, 0, none⟩) (by simp only []; omega)).trans c4
  have Bw16 := Bw15.trans (hb.mono (by omega))
  have c7 := c7x
  clear c7x hb
  go_wp2_with (rw [← e2]; clear e2)
  have ltw16 : w15.heap.size < w16.heap.size := by omega
  refine (eqCode_t w16 S7 S2 n k7 k2 xs hn (Nat.le_trans hln (by decide)) (sl_of_own HP7.out) (sl_of_own HP2.out)).mono ?_
  rintro e w17 ⟨rfl, hb⟩
  have zw17 := hb.size
  have HP1 := Lib.hid (own_below HP1.out hb (Nat.le_refl _))
  have HP2 := Lib.hid (own_below HP2.out hb (Nat.le_refl _))
  have HP3 := Lib.hid (own_below HP3.out hb (Nat.le_refl _))
  have HP4 := Lib.hid (own_below HP4.out hb (Nat.le_refl _))
  have HP5 := Lib.hid (own_below HP5.out hb (Nat.le_refl _))
  have HP6 := Lib.hid (own_below HP6.out hb (Nat.le_refl _))
  have HP7 := Lib.hid (own_below HP7.out hb (Nat.le_refl _))
  have c2 := (hb.cell (p := ⟨w2.heap.size, 0, none⟩) (by simp only []; omega)).trans c2
  have c4 := (hb.cell (p := ⟨w5.heap.size, 0, none⟩) (by simp only []; omega)).trans c4
  have c7 := (hb.cell (p := ⟨w15.heap.size, 0, none⟩) (by simp only []; omega)).trans c7
  have Bw17 := Bw16.trans (hb.mono (by omega))
  clear hb
  go_wp2_with fail
  refine (heldCode_c w17 S4 n k4 (Nat.le_trans hln (by decide)) 1 (by decide) (by decide) (sl_of_own HP4.out)).mono ?_
  rintro e w18 ⟨rfl, hb⟩
  have zw18 := hb.size
  have HP1 := Lib.hid (own_below HP1.out hb (Nat.le_refl _))
  have HP2 := Lib.hid (own_below HP2.out hb (Nat.le_refl _))
  have HP3 := Lib.hid (own_below HP3.out hb (Nat.le_refl _))
  have HP4 := Lib.hid (own_below HP4.out hb (Nat.le_refl _))
  have HP5 := Lib.hid (own_below HP5.out hb (Nat.le_refl _))
  have HP6 := Lib.hid (own_below HP6.out hb (Nat.le_refl _))
  have HP7 := Lib.hid (own_below HP7.out hb (Nat.le_refl _))
  have c2 := (hb.cell (p := ⟨w2.heap.size, 0, none⟩) (by simp only []; omega)).trans c2
  have c4 := (hb.cell (p := ⟨w5.heap.size, 0, none⟩) (by simp only []; omega)).trans c4
  have c7 := (hb.cell (p := ⟨w15.heap.size, 0, none⟩) (by simp only []; omega)).trans c7
  have Bw18 := Bw17.trans (hb.mono (by omega))
  clear hb
  go_wp2
  go_ret
  exact ⟨rfl, Bw18⟩

end Go.Proofs.Ytkmfjadlobpbkaa
