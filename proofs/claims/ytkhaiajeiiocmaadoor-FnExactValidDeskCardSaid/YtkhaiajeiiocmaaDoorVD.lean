/-
  Contracts: valid desks, of the program and of the reference.
  Conditions: lengths at most 1048576.
-/
import Derived.Test.YtkhaiajeiiocmaaDoorPO
import Derived.Test.YtkhaiajeiiocmaaDoorVO
import Derived.Test.YtkhaiajeiiocmaaDoorVC
import Derived.Test.YtkhaiajeiiocmaaDoorVT
namespace Go.Proofs.YtkhaiajeiiocmaaDoor
open Go.RowKit

def deskB (x0 : List Nat) (x1 : List Int) (a2 : Int) (x3 : List Int) (a4 : ByteArray) : Bool := (((rowB x0 && codeB x1) && validParB a2 x3) && textB a4) && decide (a4.size ≤ 64)


set_option maxRecDepth 100000 in
set_option maxHeartbeats 4000000 in
theorem impl_ValidDesk_c (w : World) (A0 : Option Addr) (n0 cap0 : Nat) (x0 : List Nat) (hl0 : x0.length = n0) (hn0 : n0 ≤ 1048576) (hx0 : Sl w w.heap.size A0 (x0.map (Value.float .f32))) (A1 : Option Addr) (n1 cap1 : Nat) (x1 : List Int) (hl1 : x1.length = n1) (hn1 : n1 ≤ 1048576) (hx1 : Sl w w.heap.size A1 (x1.map (Value.int .i64))) (a2 : Int) (A3 : Option Addr) (n3 cap3 : Nat) (x3 : List Int) (hl3 : x3.length = n3) (hn3 : n3 ≤ 1048576) (hx3 : Sl w w.heap.size A3 (x3.map (Value.int .i64))) (a4 : ByteArray) (hs4 : a4.size ≤ 1048576) :
    Calls Tryd.prog 7 #[.agg #[.slice A0 n0 cap0, .slice A1 n1 cap1, .int .i64 a2, .slice A3 n3 cap3, .string a4]] w fun e w' => e = .returned (.bool (deskB x0 x1 a2 x3 a4)) ∧ Below w.heap.size w w' := by
  have hB0 : Below w.heap.size w (w.alloc (.cells #[.slice A0 n0 cap0, .slice A1 n1 cap1, .int .i64 a2, .slice A3 n3 cap3, .string a4] 35)) := (Below.refl _ _).alloc (Nat.le_refl _) _
  obtain ⟨w1, ew⟩ : ∃ q : World, q = w.alloc (.cells #[.slice A0 n0 cap0, .slice A1 n1 cap1, .int .i64 a2, .slice A3 n3 cap3, .string a4] 35) := ⟨_, rfl⟩
  have c0 : w1.cell? ⟨w.heap.size, 0, none⟩ = some (.slice A0 n0 cap0) := by rw [ew]; (first | (simp; done) | (simp (disch := (first | (simp; done) | (simp; omega))) [World.cell?_alloc_at]; done) | (simp (disch := (first | (simp; done) | (simp; omega))) [World.cell?_alloc_past]; done) | (simp (disch := (first | (simp; done) | (simp; omega))) [World.cell?_alloc_at, World.cell?_alloc_past]; done) | (simp (disch := (first | (simp; done) | (simp; omega))) [World.frozen?_alloc_at]; done) | (simp (disch := (first | (simp; done) | (simp; omega))) [World.frozen?_alloc_past]; done) | (simp (disch := (first | (simp; done) | (simp; omega))) [World.frozen?_alloc_at, World.frozen?_alloc_past]; done))
  have c1 : w1.cell? ⟨w.heap.size, 1, none⟩ = some (.slice A1 n1 cap1) := by rw [ew]; (first | (simp; done) | (simp (disch := (first | (simp; done) | (simp; omega))) [World.cell?_alloc_at]; done) | (simp (disch := (first | (simp; done) | (simp; omega))) [World.cell?_alloc_past]; done) | (simp (disch := (first | (simp; done) | (simp; omega))) [World.cell?_alloc_at, World.cell?_alloc_past]; done) | (simp (disch := (first | (simp; done) | (simp; omega))) [World.frozen?_alloc_at]; done) | (simp (disch := (first | (simp; done) | (simp; omega))) [World.frozen?_alloc_past]; done) | (simp (disch := (first | (simp; done) | (simp; omega))) [World.frozen?_alloc_at, World.frozen?_alloc_past]; done))
  have c2 : w1.cell? ⟨w.heap.size, 2, none⟩ = some (.int .i64 a2) := by rw [ew]; (first | (simp; done) | (simp (disch := (first | (simp; done) | (simp; omega))) [World.cell?_alloc_at]; done) | (simp (disch := (first | (simp; done) | (simp; omega))) [World.cell?_alloc_past]; done) | (simp (disch := (first | (simp; done) | (simp; omega))) [World.cell?_alloc_at, World.cell?_alloc_past]; done) | (simp (disch := (first | (simp; done) | (simp; omega))) [World.frozen?_alloc_at]; done) | (simp (disch := (first | (simp; done) | (simp; omega))) [World.frozen?_alloc_past]; done) | (simp (disch := (first | (simp; done) | (simp; omega))) [World.frozen?_alloc_at, World.frozen?_alloc_past]; done))
  have c3 : w1.cell? ⟨w.heap.size, 3, none⟩ = some (.slice A3 n3 cap3) := by rw [ew]; (first | (simp; done) | (simp (disch := (first | (simp; done) | (simp; omega))) [World.cell?_alloc_at]; done) | (simp (disch := (first | (simp; done) | (simp; omega))) [World.cell?_alloc_past]; done) | (simp (disch := (first | (simp; done) | (simp; omega))) [World.cell?_alloc_at, World.cell?_alloc_past]; done) | (simp (disch := (first | (simp; done) | (simp; omega))) [World.frozen?_alloc_at]; done) | (simp (disch := (first | (simp; done) | (simp; omega))) [World.frozen?_alloc_past]; done) | (simp (disch := (first | (simp; done) | (simp; omega))) [World.frozen?_alloc_at, World.frozen?_alloc_past]; done))
  have c4 : w1.cell? ⟨w.heap.size, 4, none⟩ = some (.string a4) := by rw [ew]; (first | (simp; done) | (simp (disch := (first | (simp; done) | (simp; omega))) [World.cell?_alloc_at]; done) | (simp (disch := (first | (simp; done) | (simp; omega))) [World.cell?_alloc_past]; done) | (simp (disch := (first | (simp; done) | (simp; omega))) [World.cell?_alloc_at, World.cell?_alloc_past]; done) | (simp (disch := (first | (simp; done) | (simp; omega))) [World.frozen?_alloc_at]; done) | (simp (disch := (first | (simp; done) | (simp; omega))) [World.frozen?_alloc_past]; done) | (simp (disch := (first | (simp; done) | (simp; omega))) [World.frozen?_alloc_at, World.frozen?_alloc_past]; done))
  have z1 : w.heap.size < w1.heap.size := by rw [ew]; simp
  rw [← ew] at hB0
  have EW := Lib.hid ew
  clear ew
  have HR := Lib.hid (impl_IsRow_c w1 w.heap.size A0 n0 cap0 x0 hl0 hn0 (hx0.below hB0))
  go_enter Tryd.func7, Tryd.ntmps7
  go_wp2_with fail
  rw [← EW.out]
  refine HR.out.mono ?_
  rintro e w2 ⟨rfl, q, rfl⟩
  clear HR
  have d1 : (w1.drewN q).cell? ⟨w.heap.size, 1, none⟩ = some (.slice A1 n1 cap1) := c1
  have d2 : (w1.drewN q).cell? ⟨w.heap.size, 2, none⟩ = some (.int .i64 a2) := c2
  have d3 : (w1.drewN q).cell? ⟨w.heap.size, 3, none⟩ = some (.slice A3 n3 cap3) := c3
  have d4 : (w1.drewN q).cell? ⟨w.heap.size, 4, none⟩ = some (.string a4) := c4
  have hB2 : Below w.heap.size w (w1.drewN q) := below_drewN hB0 q
  have z2 : w.heap.size < (w1.drewN q).heap.size := z1
  obtain ⟨w2, ew2⟩ : ∃ W : World, W = w1.drewN q := ⟨_, rfl⟩
  rw [← ew2] at d1 d2 d3 d4 hB2 z2 ⊢
  clear c0 c1 c2 c3 c4 ew2 hB0 z1 EW
  cases hr : rowB x0
  · have e1 : deskB x0 x1 a2 x3 a4 = false := by unfold deskB; rw [hr]; rfl
    have HE := Lib.hid e1
    clear hr e1
    go_wp2
    go_ret
    exact ⟨ret_bool HE.out.symm, hB2⟩
  · go_wp2_with fail
    refine (impl_ValidCode_c w2 A1 n1 cap1 x1 hl1 hn1 ((hx1.below hB2).more hB2.size)).mono ?_
    rintro e w3 ⟨rfl, hb3⟩
    have f2 := (hb3.cell (p := ⟨w.heap.size, 2, none⟩) z2).trans d2
    have f3 := (hb3.cell (p := ⟨w.heap.size, 3, none⟩) z2).trans d3
    have f4 := (hb3.cell (p := ⟨w.heap.size, 4, none⟩) z2).trans d4
    have hB3 : Below w.heap.size w w3 := hB2.trans (hb3.mono hB2.size)
    have z3 : w.heap.size < w3.heap.size := Nat.lt_of_lt_of_le z2 hb3.size
    clear d1 d2 d3 d4 hb3
    cases hc : codeB x1
    · have e1 : deskB x0 x1 a2 x3 a4 = false := by unfold deskB; rw [hr, hc]; rfl
      have HE := Lib.hid e1
      clear hr hc e1
      go_wp2
      go_ret
      exact ⟨ret_bool HE.out.symm, hB3⟩
    · go_wp2_with fail
      refine (impl_ValidParity_c w3 a2 A3 n3 cap3 x3 hl3 hn3 ((hx3.below hB3).more hB3.size)).mono ?_
      rintro e w4 ⟨rfl, hb4⟩
      have g4 := (hb4.cell (p := ⟨w.heap.size, 4, none⟩) z3).trans f4
      have hB4 : Below w.heap.size w w4 := hB3.trans (hb4.mono hB3.size)
      have z4 : w.heap.size < w4.heap.size := Nat.lt_of_lt_of_le z3 hb4.size
      clear f2 f3 f4 hb4
      cases hp : validParB a2 x3
      · have e1 : deskB x0 x1 a2 x3 a4 = false := by unfold deskB; rw [hr, hc, hp]; rfl
        have HE := Lib.hid e1
        clear hr hc hp e1
        go_wp2
        go_ret
        exact ⟨ret_bool HE.out.symm, hB4⟩
      · go_wp2_with fail
        refine (impl_isBits_c w4 a4 (by omega)).mono ?_
        rintro e w5 ⟨rfl, hb5⟩
        have k4 := (hb5.cell (p := ⟨w.heap.size, 4, none⟩) z4).trans g4
        have hB5 : Below w.heap.size w w5 := hB4.trans (hb5.mono hB4.size)
        clear g4 hb5
        cases ht : textB a4
        · have e1 : deskB x0 x1 a2 x3 a4 = false := by unfold deskB; rw [hr, hc, hp, ht]; rfl
          have HE := Lib.hid e1
          clear hr hc hp ht e1
          go_wp2
          go_ret
          exact ⟨ret_bool HE.out.symm, hB5⟩
        · have e1 : deskB x0 x1 a2 x3 a4 = decide (a4.size ≤ 64) := by unfold deskB; rw [hr, hc, hp, ht]; rfl
          have HE := Lib.hid e1
          clear hr hc hp ht e1
          go_wp2
          go_ret
          exact ⟨ret_bool (by rw [HE.out]; simp; omega), hB5⟩


set_option maxRecDepth 100000 in
set_option maxHeartbeats 4000000 in
theorem spec_l08Is_c (w : World) (b B : Nat) (hbz : b < w.heap.size) (hBz : B ≤ w.heap.size) (A0 : Option Addr) (n0 cap0 : Nat) (x0 : List Nat) (hl0 : x0.length = n0) (hn0 : n0 ≤ 1048576) (hx0 : Sl w B A0 (x0.map (Value.float .f32))) (A1 : Option Addr) (n1 cap1 : Nat) (x1 : List Int) (hl1 : x1.length = n1) (hn1 : n1 ≤ 1048576) (hx1 : Sl w B A1 (x1.map (Value.int .i64))) (a2 : Int) (A3 : Option Addr) (n3 cap3 : Nat) (x3 : List Int) (hl3 : x3.length = n3) (hn3 : n3 ≤ 1048576) (hx3 : Sl w B A3 (x3.map (Value.int .i64))) (a4 : ByteArray) (hs4 : a4.size ≤ 1048576)
    (c0 : w.cell? ⟨b, 0, none⟩ = some (.slice A0 n0 cap0)) (c1 : w.cell? ⟨b, 1, none⟩ = some (.slice A1 n1 cap1)) (c2 : w.cell? ⟨b, 2, none⟩ = some (.int .i64 a2)) (c3 : w.cell? ⟨b, 3, none⟩ = some (.slice A3 n3 cap3)) (c4 : w.cell? ⟨b, 4, none⟩ = some (.string a4)) :
    Calls Tryd.prog 12 #[.pointer (some ⟨b, 0, none⟩)] w fun e w' => e = .returned (.bool (deskB x0 x1 a2 x3 a4)) ∧ Below w.heap.size w w' := by
  go_enter Tryd.func12, Tryd.ntmps12
  go_wp2_with fail
  refine (spec_l02Row_c w B A0 n0 cap0 x0 hl0 hn0 hx0).mono ?_
  rintro e w2 ⟨rfl, q, rfl⟩
  have hB2 : Below w.heap.size w (w.drewN q) := below_of_drewN _ _ _
  have d1 : (w.drewN q).cell? ⟨b, 1, none⟩ = some (.slice A1 n1 cap1) := c1
  have d2 : (w.drewN q).cell? ⟨b, 2, none⟩ = some (.int .i64 a2) := c2
  have d3 : (w.drewN q).cell? ⟨b, 3, none⟩ = some (.slice A3 n3 cap3) := c3
  have d4 : (w.drewN q).cell? ⟨b, 4, none⟩ = some (.string a4) := c4
  have y1 : Sl (w.drewN q) B A1 (x1.map (Value.int .i64)) := hx1.drewN q
  have y3 : Sl (w.drewN q) B A3 (x3.map (Value.int .i64)) := hx3.drewN q
  have z2 : b < (w.drewN q).heap.size := hbz
  have zB : B ≤ (w.drewN q).heap.size := hBz
  have zz : w.heap.size ≤ (w.drewN q).heap.size := Nat.le_refl _
  obtain ⟨w2, ew2⟩ : ∃ W : World, W = w.drewN q := ⟨_, rfl⟩
  rw [← ew2] at d1 d2 d3 d4 hB2 z2 zB zz y1 y3 ⊢
  clear c0 c1 c2 c3 c4 ew2
  cases hr : rowB x0
  · have e1 : deskB x0 x1 a2 x3 a4 = false := by unfold deskB; rw [hr]; rfl
    have HE := Lib.hid e1
    clear hr e1
    go_wp2
    go_ret
    exact ⟨ret_bool HE.out.symm, hB2⟩
  · go_wp2_with fail
    refine (spec_l04Is_c w2 b 1 B A1 n1 cap1 x1 d1 hl1 hn1 y1).mono ?_
    rintro e w3 ⟨rfl, rfl⟩
    cases hc : codeB x1
    · have e1 : deskB x0 x1 a2 x3 a4 = false := by unfold deskB; rw [hr, hc]; rfl
      have HE := Lib.hid e1
      clear hr hc e1
      go_wp2
      go_ret
      exact ⟨ret_bool HE.out.symm, hB2⟩
    · go_wp2_with fail
      refine (spec_l06Is_o w2 b 2 B a2 A3 n3 cap3 x3 d2 d3 z2 zB hl3 hn3 y3).mono ?_
      rintro e w4 ⟨rfl, hb4⟩
      have g4 := (hb4.cell (p := ⟨b, 4, none⟩) z2).trans d4
      have hB4 : Below w.heap.size w w4 := hB2.trans (hb4.mono zz)
      clear d1 d2 d3 d4 hb4
      cases hp : validParB a2 x3
      · have e1 : deskB x0 x1 a2 x3 a4 = false := by unfold deskB; rw [hr, hc, hp]; rfl
        have HE := Lib.hid e1
        clear hr hc hp e1
        go_wp2
        go_ret
        exact ⟨ret_bool HE.out.symm, hB4⟩
      · have e1 : deskB x0 x1 a2 x3 a4 = (decide (a4.size ≤ 64) && textB a4) := by unfold deskB; rw [hr, hc, hp, Bool.and_comm]; rfl
        have HE := Lib.hid e1
        clear hr hc hp e1
        go_wp2_with (go_at_call 27; refine (spec_l08Bits_c _ a4 (by omega)).mono ?_; rintro e w' ⟨rfl, rfl⟩)
        go_ret
        exact ⟨ret_bool HE.out.symm, hB4⟩

set_option maxRecDepth 100000 in
set_option maxHeartbeats 4000000 in
theorem spec_ValidDesk_c (w : World) (A0 : Option Addr) (n0 cap0 : Nat) (x0 : List Nat) (hl0 : x0.length = n0) (hn0 : n0 ≤ 1048576) (hx0 : Sl w w.heap.size A0 (x0.map (Value.float .f32))) (A1 : Option Addr) (n1 cap1 : Nat) (x1 : List Int) (hl1 : x1.length = n1) (hn1 : n1 ≤ 1048576) (hx1 : Sl w w.heap.size A1 (x1.map (Value.int .i64))) (a2 : Int) (A3 : Option Addr) (n3 cap3 : Nat) (x3 : List Int) (hl3 : x3.length = n3) (hn3 : n3 ≤ 1048576) (hx3 : Sl w w.heap.size A3 (x3.map (Value.int .i64))) (a4 : ByteArray) (hs4 : a4.size ≤ 1048576) :
    Calls Tryd.prog 5 #[.agg #[.slice A0 n0 cap0, .slice A1 n1 cap1, .int .i64 a2, .slice A3 n3 cap3, .string a4]] w fun e w' => e = .returned (.bool (deskB x0 x1 a2 x3 a4)) ∧ Below w.heap.size w w' := by
  have hB0 : Below w.heap.size w (w.alloc (.cells #[.slice A0 n0 cap0, .slice A1 n1 cap1, .int .i64 a2, .slice A3 n3 cap3, .string a4] 35)) := (Below.refl _ _).alloc (Nat.le_refl _) _
  obtain ⟨w1, ew⟩ : ∃ q : World, q = w.alloc (.cells #[.slice A0 n0 cap0, .slice A1 n1 cap1, .int .i64 a2, .slice A3 n3 cap3, .string a4] 35) := ⟨_, rfl⟩
  have c0 : w1.cell? ⟨w.heap.size, 0, none⟩ = some (.slice A0 n0 cap0) := by rw [ew]; (first | (simp; done) | (simp (disch := (first | (simp; done) | (simp; omega))) [World.cell?_alloc_at]; done) | (simp (disch := (first | (simp; done) | (simp; omega))) [World.cell?_alloc_past]; done) | (simp (disch := (first | (simp; done) | (simp; omega))) [World.cell?_alloc_at, World.cell?_alloc_past]; done) | (simp (disch := (first | (simp; done) | (simp; omega))) [World.frozen?_alloc_at]; done) | (simp (disch := (first | (simp; done) | (simp; omega))) [World.frozen?_alloc_past]; done) | (simp (disch := (first | (simp; done) | (simp; omega))) [World.frozen?_alloc_at, World.frozen?_alloc_past]; done))
  have c1 : w1.cell? ⟨w.heap.size, 1, none⟩ = some (.slice A1 n1 cap1) := by rw [ew]; (first | (simp; done) | (simp (disch := (first | (simp; done) | (simp; omega))) [World.cell?_alloc_at]; done) | (simp (disch := (first | (simp; done) | (simp; omega))) [World.cell?_alloc_past]; done) | (simp (disch := (first | (simp; done) | (simp; omega))) [World.cell?_alloc_at, World.cell?_alloc_past]; done) | (simp (disch := (first | (simp; done) | (simp; omega))) [World.frozen?_alloc_at]; done) | (simp (disch := (first | (simp; done) | (simp; omega))) [World.frozen?_alloc_past]; done) | (simp (disch := (first | (simp; done) | (simp; omega))) [World.frozen?_alloc_at, World.frozen?_alloc_past]; done))
  have c2 : w1.cell? ⟨w.heap.size, 2, none⟩ = some (.int .i64 a2) := by rw [ew]; (first | (simp; done) | (simp (disch := (first | (simp; done) | (simp; omega))) [World.cell?_alloc_at]; done) | (simp (disch := (first | (simp; done) | (simp; omega))) [World.cell?_alloc_past]; done) | (simp (disch := (first | (simp; done) | (simp; omega))) [World.cell?_alloc_at, World.cell?_alloc_past]; done) | (simp (disch := (first | (simp; done) | (simp; omega))) [World.frozen?_alloc_at]; done) | (simp (disch := (first | (simp; done) | (simp; omega))) [World.frozen?_alloc_past]; done) | (simp (disch := (first | (simp; done) | (simp; omega))) [World.frozen?_alloc_at, World.frozen?_alloc_past]; done))
  have c3 : w1.cell? ⟨w.heap.size, 3, none⟩ = some (.slice A3 n3 cap3) := by rw [ew]; (first | (simp; done) | (simp (disch := (first | (simp; done) | (simp; omega))) [World.cell?_alloc_at]; done) | (simp (disch := (first | (simp; done) | (simp; omega))) [World.cell?_alloc_past]; done) | (simp (disch := (first | (simp; done) | (simp; omega))) [World.cell?_alloc_at, World.cell?_alloc_past]; done) | (simp (disch := (first | (simp; done) | (simp; omega))) [World.frozen?_alloc_at]; done) | (simp (disch := (first | (simp; done) | (simp; omega))) [World.frozen?_alloc_past]; done) | (simp (disch := (first | (simp; done) | (simp; omega))) [World.frozen?_alloc_at, World.frozen?_alloc_past]; done))
  have c4 : w1.cell? ⟨w.heap.size, 4, none⟩ = some (.string a4) := by rw [ew]; (first | (simp; done) | (simp (disch := (first | (simp; done) | (simp; omega))) [World.cell?_alloc_at]; done) | (simp (disch := (first | (simp; done) | (simp; omega))) [World.cell?_alloc_past]; done) | (simp (disch := (first | (simp; done) | (simp; omega))) [World.cell?_alloc_at, World.cell?_alloc_past]; done) | (simp (disch := (first | (simp; done) | (simp; omega))) [World.frozen?_alloc_at]; done) | (simp (disch := (first | (simp; done) | (simp; omega))) [World.frozen?_alloc_past]; done) | (simp (disch := (first | (simp; done) | (simp; omega))) [World.frozen?_alloc_at, World.frozen?_alloc_past]; done))
  have z1 : w.heap.size < w1.heap.size := by rw [ew]; simp
  rw [← ew] at hB0
  have EW := Lib.hid ew
  clear ew
  have HR := Lib.hid (spec_l08Is_c w1 w.heap.size w.heap.size z1 hB0.size A0 n0 cap0 x0 hl0 hn0 (hx0.below hB0) A1 n1 cap1 x1 hl1 hn1 (hx1.below hB0) a2 A3 n3 cap3 x3 hl3 hn3 (hx3.below hB0) a4 hs4 c0 c1 c2 c3 c4)
  go_enter Tryd.func5, Tryd.ntmps5
  go_wp2_with fail
  rw [← EW.out]
  refine HR.out.mono ?_
  rintro e w2 ⟨rfl, hb2⟩
  go_wp2
  go_ret
  exact ⟨rfl, hB0.trans (hb2.mono hB0.size)⟩

end Go.Proofs.YtkhaiajeiiocmaaDoor
