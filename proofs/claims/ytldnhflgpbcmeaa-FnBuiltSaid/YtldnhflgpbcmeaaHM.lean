/-
  Contracts: the code of all numbers of three digits.
  Conditions: none.
-/
import Derived.Test.YtldnhflgpbcmeaaPX
namespace Go.Proofs.Ytldnhflgpbcmeaa
open Go.RowKit

theorem wts : wt 1 = 1 ∧ wt 2 = 1 ∧ wt 3 = 2 ∧ wt 4 = 1 ∧ wt 5 = 2 ∧ wt 6 = 2 ∧ wt 7 = 3 := by decide +kernel
theorem hds : (hasD 3 0 = true ∧ hasD 3 1 = true ∧ hasD 3 2 = false) ∧ (hasD 5 0 = true ∧ hasD 5 1 = false ∧ hasD 5 2 = true) ∧ (hasD 6 0 = false ∧ hasD 6 1 = true ∧ hasD 6 2 = true) ∧ (hasD 7 0 = true ∧ hasD 7 1 = true ∧ hasD 7 2 = true) := by decide +kernel
def hamL : List Int := [7, 25, 42, 75]
theorem ham_valid : validParB 7 hamL = true := by decide +kernel

set_option maxRecDepth 100000 in
set_option maxHeartbeats 1000000 in
theorem impl_asParity_y (w : World) (m : Int) (A : Option Addr) (n cap : Nat) (xs : List Int) (hl : xs.length = n) (hn : n ≤ 1048576) (hx : Sl w w.heap.size A (xs.map (Value.int .i64))) (hv : validParB m xs = true) :
    Calls Try.prog 33 #[.int .i64 m, .slice A n cap] w fun e w' => e = .returned (.tuple #[.agg #[.int .i64 m, .slice A n cap], .bool true]) ∧ Below w.heap.size w w' := by
  have HV := Lib.hid hv
  have HX := Lib.hid hx
  obtain ⟨w1, e1⟩ : ∃ q : World, q = (w.alloc (.cells #[.int .i64 0, .slice none 0 0] 27)).alloc (.cells #[.int .i64 m, .slice A n cap] 27) := ⟨_, rfl⟩
  have z1 : w1.heap.size = w.heap.size + 1 + 1 := by rw [e1]; simp
  have B1 : Below w.heap.size w w1 := by rw [e1]; exact ((Below.refl _ _).alloc (Nat.le_refl _) _).alloc (by simp) _
  have c0 : w1.cell? ⟨w.heap.size, 0, none⟩ = some (.int .i64 0) := by rw [e1]; (first | (simp; done) | (simp (disch := (first | (simp; done) | (simp; omega))) [World.cell?_alloc_at]; done) | (simp (disch := (first | (simp; done) | (simp; omega))) [World.cell?_alloc_past]; done) | (simp (disch := (first | (simp; done) | (simp; omega))) [World.cell?_alloc_at, World.cell?_alloc_past]; done) | (simp (disch := (first | (simp; done) | (simp; omega))) [World.frozen?_alloc_at]; done) | (simp (disch := (first | (simp; done) | (simp; omega))) [World.frozen?_alloc_past]; done) | (simp (disch := (first | (simp; done) | (simp; omega))) [World.frozen?_alloc_at, World.frozen?_alloc_past]; done))
  have c1 : w1.cell? ⟨w.heap.size, 1, none⟩ = some (.slice none 0 0) := by rw [e1]; (first | (simp; done) | (simp (disch := (first | (simp; done) | (simp; omega))) [World.cell?_alloc_at]; done) | (simp (disch := (first | (simp; done) | (simp; omega))) [World.cell?_alloc_past]; done) | (simp (disch := (first | (simp; done) | (simp; omega))) [World.cell?_alloc_at, World.cell?_alloc_past]; done) | (simp (disch := (first | (simp; done) | (simp; omega))) [World.frozen?_alloc_at]; done) | (simp (disch := (first | (simp; done) | (simp; omega))) [World.frozen?_alloc_past]; done) | (simp (disch := (first | (simp; done) | (simp; omega))) [World.frozen?_alloc_at, World.frozen?_alloc_past]; done))
  have d0 : w1.cell? ⟨w.heap.size + 1, 0, none⟩ = some (.int .i64 m) := by rw [e1]; (first | (simp; done) | (simp (disch := (first | (simp; done) | (simp; omega))) [World.cell?_alloc_at]; done) | (simp (disch := (first | (simp; done) | (simp; omega))) [World.cell?_alloc_past]; done) | (simp (disch := (first | (simp; done) | (simp; omega))) [World.cell?_alloc_at, World.cell?_alloc_past]; done) | (simp (disch := (first | (simp; done) | (simp; omega))) [World.frozen?_alloc_at]; done) | (simp (disch := (first | (simp; done) | (simp; omega))) [World.frozen?_alloc_past]; done) | (simp (disch := (first | (simp; done) | (simp; omega))) [World.frozen?_alloc_at, World.frozen?_alloc_past]; done))
  have d1 : w1.cell? ⟨w.heap.size + 1, 1, none⟩ = some (.slice A n cap) := by rw [e1]; (first | (simp; done) | (simp (disch := (first | (simp; done) | (simp; omega))) [World.cell?_alloc_at]; done) | (simp (disch := (first | (simp; done) | (simp; omega))) [World.cell?_alloc_past]; done) | (simp (disch := (first | (simp; done) | (simp; omega))) [World.cell?_alloc_at, World.cell?_alloc_past]; done) | (simp (disch := (first | (simp; done) | (simp; omega))) [World.frozen?_alloc_at]; done) | (simp (disch := (first | (simp; done) | (simp; omega))) [World.frozen?_alloc_past]; done) | (simp (disch := (first | (simp; done) | (simp; omega))) [World.frozen?_alloc_at, World.frozen?_alloc_past]; done))
  have f0 : w1.frozen? ⟨w.heap.size, 0, none⟩ = false := by rw [e1]; (first | (simp; done) | (simp (disch := (first | (simp; done) | (simp; omega))) [World.cell?_alloc_at]; done) | (simp (disch := (first | (simp; done) | (simp; omega))) [World.cell?_alloc_past]; done) | (simp (disch := (first | (simp; done) | (simp; omega))) [World.cell?_alloc_at, World.cell?_alloc_past]; done) | (simp (disch := (first | (simp; done) | (simp; omega))) [World.frozen?_alloc_at]; done) | (simp (disch := (first | (simp; done) | (simp; omega))) [World.frozen?_alloc_past]; done) | (simp (disch := (first | (simp; done) | (simp; omega))) [World.frozen?_alloc_at, World.frozen?_alloc_past]; done))
  have f1 : w1.frozen? ⟨w.heap.size, 1, none⟩ = false := by rw [e1]; (first | (simp; done) | (simp (disch := (first | (simp; done) | (simp; omega))) [World.cell?_alloc_at]; done) | (simp (disch := (first | (simp; done) | (simp; omega))) [World.cell?_alloc_past]; done) | (simp (disch := (first | (simp; done) | (simp; omega))) [World.cell?_alloc_at, World.cell?_alloc_past]; done) | (simp (disch := (first | (simp; done) | (simp; omega))) [World.frozen?_alloc_at]; done) | (simp (disch := (first | (simp; done) | (simp; omega))) [World.frozen?_alloc_past]; done) | (simp (disch := (first | (simp; done) | (simp; omega))) [World.frozen?_alloc_at, World.frozen?_alloc_past]; done))
  clear hv hx
  go_enter Try.func33, Try.ntmps33
  go_wp2_with fail
  rw [← e1]
  clear e1
  refine (impl_ValidParity_c w1 m A n cap xs hl hn ((HX.out.below B1).more B1.size)).mono ?_
  rintro e w2 ⟨rfl, hb2⟩
  rw [HV.out]
  have c0 := (hb2.cell (p := ⟨w.heap.size, 0, none⟩) (by simp only []; omega)).trans c0
  have c1 := (hb2.cell (p := ⟨w.heap.size, 1, none⟩) (by simp only []; omega)).trans c1
  have d0 := (hb2.cell (p := ⟨w.heap.size + 1, 0, none⟩) (by simp only []; omega)).trans d0
  have d1 := (hb2.cell (p := ⟨w.heap.size + 1, 1, none⟩) (by simp only []; omega)).trans d1
  have f0 := (hb2.frozen (p := ⟨w.heap.size, 0, none⟩) (by simp only []; omega)).trans f0
  have f1 := (hb2.frozen (p := ⟨w.heap.size, 1, none⟩) (by simp only []; omega)).trans f1
  have B2 := B1.trans (hb2.mono B1.size)
  clear hb2
  go_wp2
  refine bodyPost_ret (v := .tuple #[.agg #[.int .i64 m, .slice A n cap], .bool true]) (by unfold results; rw [Try.results33]; go_simp) rfl ?_
  refine ⟨rfl, ?_⟩
  iterate 2 (refine Below.setCell ?_ (by simp <;> omega) _)
  exact B2

set_option maxRecDepth 100000 in
set_option maxHeartbeats 8000000 in
theorem impl_Hamming3_rows (w : World) : Calls Try.prog 7 #[.int .i64 3] w fun e w' => ∃ v, e = .returned (.tuple #[.agg #[.int .i64 7, v], .bool true]) ∧ Ow w' w.heap.size 2 v (hamL.map (Value.int .i64)) ∧ Below w.heap.size w w' := by
  have hi : inB 3 2 3 = true := by decide
  have HI := Lib.hid hi
  have HW := Lib.hid wts
  have HD := Lib.hid hds
  clear hi
  go_enter Try.func7, Try.ntmps7
  go_wp2_with (go_at_call 30; refine (impl_within_c _ _ _ _).mono ?_; rintro e w' ⟨rfl, rfl⟩; rw [HI.out])
  obtain ⟨w2, e2⟩ : ∃ q : World, q = w.alloc (.cells #[.int .i64 0, .slice none 0 0] 27) := ⟨_, rfl⟩
  have z2 : w.heap.size + 1 = w2.heap.size := by rw [e2]; simp
  have B2 : Below w.heap.size w w2 := by rw [e2]; exact (Below.refl _ _).alloc (Nat.le_refl _) _
  have c0 : w2.cell? ⟨w.heap.size, 0, none⟩ = some (.int .i64 0) := by rw [e2]; (first | (simp; done) | (simp (disch := (first | (simp; done) | (simp; omega))) [World.cell?_alloc_at]; done) | (simp (disch := (first | (simp; done) | (simp; omega))) [World.cell?_alloc_past]; done) | (simp (disch := (first | (simp; done) | (simp; omega))) [World.cell?_alloc_at, World.cell?_alloc_past]; done) | (simp (disch := (first | (simp; done) | (simp; omega))) [World.frozen?_alloc_at]; done) | (simp (disch := (first | (simp; done) | (simp; omega))) [World.frozen?_alloc_past]; done) | (simp (disch := (first | (simp; done) | (simp; omega))) [World.frozen?_alloc_at, World.frozen?_alloc_past]; done))
  have c1 : w2.cell? ⟨w.heap.size, 1, none⟩ = some (.slice none 0 0) := by rw [e2]; (first | (simp; done) | (simp (disch := (first | (simp; done) | (simp; omega))) [World.cell?_alloc_at]; done) | (simp (disch := (first | (simp; done) | (simp; omega))) [World.cell?_alloc_past]; done) | (simp (disch := (first | (simp; done) | (simp; omega))) [World.cell?_alloc_at, World.cell?_alloc_past]; done) | (simp (disch := (first | (simp; done) | (simp; omega))) [World.frozen?_alloc_at]; done) | (simp (disch := (first | (simp; done) | (simp; omega))) [World.frozen?_alloc_past]; done) | (simp (disch := (first | (simp; done) | (simp; omega))) [World.frozen?_alloc_at, World.frozen?_alloc_past]; done))
  have f0 : w2.frozen? ⟨w.heap.size, 0, none⟩ = false := by rw [e2]; (first | (simp; done) | (simp (disch := (first | (simp; done) | (simp; omega))) [World.cell?_alloc_at]; done) | (simp (disch := (first | (simp; done) | (simp; omega))) [World.cell?_alloc_past]; done) | (simp (disch := (first | (simp; done) | (simp; omega))) [World.cell?_alloc_at, World.cell?_alloc_past]; done) | (simp (disch := (first | (simp; done) | (simp; omega))) [World.frozen?_alloc_at]; done) | (simp (disch := (first | (simp; done) | (simp; omega))) [World.frozen?_alloc_past]; done) | (simp (disch := (first | (simp; done) | (simp; omega))) [World.frozen?_alloc_at, World.frozen?_alloc_past]; done))
  have f1 : w2.frozen? ⟨w.heap.size, 1, none⟩ = false := by rw [e2]; (first | (simp; done) | (simp (disch := (first | (simp; done) | (simp; omega))) [World.cell?_alloc_at]; done) | (simp (disch := (first | (simp; done) | (simp; omega))) [World.cell?_alloc_past]; done) | (simp (disch := (first | (simp; done) | (simp; omega))) [World.cell?_alloc_at, World.cell?_alloc_past]; done) | (simp (disch := (first | (simp; done) | (simp; omega))) [World.frozen?_alloc_at]; done) | (simp (disch := (first | (simp; done) | (simp; omega))) [World.frozen?_alloc_past]; done) | (simp (disch := (first | (simp; done) | (simp; omega))) [World.frozen?_alloc_at, World.frozen?_alloc_past]; done))
  rw [← e2, z2]
  have C0 := Lib.hid c0
  have C1 := Lib.hid c1
  have F0 := Lib.hid f0
  have F1 := Lib.hid f1
  have z3 : w.heap.size < w2.heap.size := by omega
  clear e2 c0 c1 f0 f1 z2
  go_loopw [5, 6] (fun v d wr => Below w2.heap.size w2 wr ∧ ((d = .int .i64 1 ∧ Ow wr w2.heap.size 2 v (([] : List Int).map (Value.int .i64))) ∨ (d = .int .i64 2 ∧ Ow wr w2.heap.size 2 v (([] : List Int).map (Value.int .i64))) ∨ (d = .int .i64 3 ∧ Ow wr w2.heap.size 2 v (([] : List Int).map (Value.int .i64))) ∨ (d = .int .i64 4 ∧ Ow wr w2.heap.size 2 v (([7] : List Int).map (Value.int .i64))) ∨ (d = .int .i64 5 ∧ Ow wr w2.heap.size 2 v (([7] : List Int).map (Value.int .i64))) ∨ (d = .int .i64 6 ∧ Ow wr w2.heap.size 2 v (([7, 25] : List Int).map (Value.int .i64))) ∨ (d = .int .i64 7 ∧ Ow wr w2.heap.size 2 v (([7, 25, 42] : List Int).map (Value.int .i64))) ∨ (d = .int .i64 8 ∧ Ow wr w2.heap.size 2 v (([7, 25, 42, 75] : List Int).map (Value.int .i64))))) (fun _ d _ => 9 - (intOf d).toNat)
  case atStart => exact ⟨(Below.refl _ _).alloc (Nat.le_refl _) _, .inl ⟨rfl, own_empty _ _ _ (Nat.le_refl _)⟩⟩
  case round =>
    obtain ⟨hb, hr⟩ := hrel
    have hz := hb.size
    rcases hr with ⟨rfl, ho⟩ | ⟨rfl, ho⟩ | ⟨rfl, ho⟩ | ⟨rfl, ho⟩ | ⟨rfl, ho⟩ | ⟨rfl, ho⟩ | ⟨rfl, ho⟩ | ⟨rfl, ho⟩
    · have hw : wt 1 = 1 := HW.out.1
      have HX := Lib.hid hw
      clear hw
      go_wp2_with (go_at_call 31; refine (impl_weightOf_w _ _ (by decide) (by decide)).mono ?_; rintro e w' ⟨rfl, rfl⟩; rw [HX.out])
      go_roundw
      case rel => exact ⟨hb, .inr (.inl ⟨rfl, ho⟩)⟩
      case measure => simp [intOf]
    · have hw : wt 2 = 1 := HW.out.2.1
      have HX := Lib.hid hw
      clear hw
      go_wp2_with (go_at_call 31; refine (impl_weightOf_w _ _ (by decide) (by decide)).mono ?_; rintro e w' ⟨rfl, rfl⟩; rw [HX.out])
      go_roundw
      case rel => exact ⟨hb, .inr (.inr (.inl ⟨rfl, ho⟩))⟩
      case measure => simp [intOf]
    · have hw : wt 3 = 2 := HW.out.2.2.1
      have HX := Lib.hid hw
      have HH := HD.out.1
      obtain ⟨hh0, hh1, hh2⟩ := HH
      have H0 := Lib.hid hh0
      have H1 := Lib.hid hh1
      have H2 := Lib.hid hh2
      have ho0 : bits .or .i64 4 1 = 5 := by decide +kernel
      have ho1 : bits .or .i64 5 2 = 7 := by decide +kernel
      clear hw hh0 hh1 hh2
      go_wp2_with (go_at_call 31; refine (impl_weightOf_w _ _ (by decide) (by decide)).mono ?_; rintro e w' ⟨rfl, rfl⟩; rw [HX.out])
      go_loop [7, 29] (fun x j => (j = .int .i64 0 ∧ x = .int .i64 4) ∨ (j = .int .i64 1 ∧ x = .int .i64 5) ∨ (j = .int .i64 2 ∧ x = .int .i64 7) ∨ (j = .int .i64 3 ∧ x = .int .i64 7)) (fun _ j => 3 - (intOf j).toNat)
      case atStart => exact .inl ⟨rfl, rfl⟩
      case round =>
        rcases hrel with ⟨rfl, rfl⟩ | ⟨rfl, rfl⟩ | ⟨rfl, rfl⟩ | ⟨rfl, rfl⟩
        · go_wp2_with (go_at_call 32; refine (impl_hasDigit_c _ _ _ (by decide) (by decide)).mono ?_; rintro e w' ⟨rfl, rfl⟩; rw [H0.out])
          go_round
          case rel => exact .inr (.inl ⟨rfl, rfl⟩)
          case measure => simp [intOf]
        · go_wp2_with (go_at_call 32; refine (impl_hasDigit_c _ _ _ (by decide) (by decide)).mono ?_; rintro e w' ⟨rfl, rfl⟩; rw [H1.out])
          go_round
          case rel => exact .inr (.inr (.inl ⟨rfl, rfl⟩))
          case measure => simp [intOf]
        · go_wp2_with (go_at_call 32; refine (impl_hasDigit_c _ _ _ (by decide) (by decide)).mono ?_; rintro e w' ⟨rfl, rfl⟩; rw [H2.out])
          go_round
          case rel => exact .inr (.inr (.inr ⟨rfl, rfl⟩))
          case measure => simp [intOf]
        · go_wp2_with (at_builtin; refine app1 Try.underlying25 infoInt64 rfl (by decide) rfl _ _ rfl _ _ _ rfl (ho.alloc _) _ _ _ rfl (cell_new1 _ _ _) rfl (by simp) (by simp; omega) ?_; intro v' w1 ho1 hb1)
          go_roundw
          case rel => exact ⟨(hb.alloc hz _).trans hb1, .inr (.inr (.inr (.inl ⟨rfl, ho1⟩)))⟩
          case measure => simp [intOf]
    · have hw : wt 4 = 1 := HW.out.2.2.2.1
      have HX := Lib.hid hw
      clear hw
      go_wp2_with (go_at_call 31; refine (impl_weightOf_w _ _ (by decide) (by decide)).mono ?_; rintro e w' ⟨rfl, rfl⟩; rw [HX.out])
      go_roundw
      case rel => exact ⟨hb, .inr (.inr (.inr (.inr (.inl ⟨rfl, ho⟩))))⟩
      case measure => simp [intOf]
    · have hw : wt 5 = 2 := HW.out.2.2.2.2.1
      have HX := Lib.hid hw
      have HH := HD.out.2.1
      obtain ⟨hh0, hh1, hh2⟩ := HH
      have H0 := Lib.hid hh0
      have H1 := Lib.hid hh1
      have H2 := Lib.hid hh2
      have ho0 : bits .or .i64 16 1 = 17 := by decide +kernel
      have ho2 : bits .or .i64 17 8 = 25 := by decide +kernel
      clear hw hh0 hh1 hh2
      go_wp2_with (go_at_call 31; refine (impl_weightOf_w _ _ (by decide) (by decide)).mono ?_; rintro e w' ⟨rfl, rfl⟩; rw [HX.out])
      go_loop [7, 29] (fun x j => (j = .int .i64 0 ∧ x = .int .i64 16) ∨ (j = .int .i64 1 ∧ x = .int .i64 17) ∨ (j = .int .i64 2 ∧ x = .int .i64 17) ∨ (j = .int .i64 3 ∧ x = .int .i64 25)) (fun _ j => 3 - (intOf j).toNat)
      case atStart => exact .inl ⟨rfl, rfl⟩
      case round =>
        rcases hrel with ⟨rfl, rfl⟩ | ⟨rfl, rfl⟩ | ⟨rfl, rfl⟩ | ⟨rfl, rfl⟩
        · go_wp2_with (go_at_call 32; refine (impl_hasDigit_c _ _ _ (by decide) (by decide)).mono ?_; rintro e w' ⟨rfl, rfl⟩; rw [H0.out])
          go_round
          case rel => exact .inr (.inl ⟨rfl, rfl⟩)
          case measure => simp [intOf]
        · go_wp2_with (go_at_call 32; refine (impl_hasDigit_c _ _ _ (by decide) (by decide)).mono ?_; rintro e w' ⟨rfl, rfl⟩; rw [H1.out])
          go_round
          case rel => exact .inr (.inr (.inl ⟨rfl, rfl⟩))
          case measure => simp [intOf]
        · go_wp2_with (go_at_call 32; refine (impl_hasDigit_c _ _ _ (by decide) (by decide)).mono ?_; rintro e w' ⟨rfl, rfl⟩; rw [H2.out])
          go_round
          case rel => exact .inr (.inr (.inr ⟨rfl, rfl⟩))
          case measure => simp [intOf]
        · go_wp2_with (at_builtin; refine app1 Try.underlying25 infoInt64 rfl (by decide) rfl _ _ rfl _ _ _ rfl (ho.alloc _) _ _ _ rfl (cell_new1 _ _ _) rfl (by simp) (by simp; omega) ?_; intro v' w1 ho1 hb1)
          go_roundw
          case rel => exact ⟨(hb.alloc hz _).trans hb1, .inr (.inr (.inr (.inr (.inr (.inl ⟨rfl, ho1⟩)))))⟩
          case measure => simp [intOf]
    · have hw : wt 6 = 2 := HW.out.2.2.2.2.2.1
      have HX := Lib.hid hw
      have HH := HD.out.2.2.1
      obtain ⟨hh0, hh1, hh2⟩ := HH
      have H0 := Lib.hid hh0
      have H1 := Lib.hid hh1
      have H2 := Lib.hid hh2
      have ho1 : bits .or .i64 32 2 = 34 := by decide +kernel
      have ho2 : bits .or .i64 34 8 = 42 := by decide +kernel
      clear hw hh0 hh1 hh2
      go_wp2_with (go_at_call 31; refine (impl_weightOf_w _ _ (by decide) (by decide)).mono ?_; rintro e w' ⟨rfl, rfl⟩; rw [HX.out])
      go_loop [7, 29] (fun x j => (j = .int .i64 0 ∧ x = .int .i64 32) ∨ (j = .int .i64 1 ∧ x = .int .i64 32) ∨ (j = .int .i64 2 ∧ x = .int .i64 34) ∨ (j = .int .i64 3 ∧ x = .int .i64 42)) (fun _ j => 3 - (intOf j).toNat)
      case atStart => exact .inl ⟨rfl, rfl⟩
      case round =>
        rcases hrel with ⟨rfl, rfl⟩ | ⟨rfl, rfl⟩ | ⟨rfl, rfl⟩ | ⟨rfl, rfl⟩
        · go_wp2_with (go_at_call 32; refine (impl_hasDigit_c _ _ _ (by decide) (by decide)).mono ?_; rintro e w' ⟨rfl, rfl⟩; rw [H0.out])
          go_round
          case rel => exact .inr (.inl ⟨rfl, rfl⟩)
          case measure => simp [intOf]
        · go_wp2_with (go_at_call 32; refine (impl_hasDigit_c _ _ _ (by decide) (by decide)).mono ?_; rintro e w' ⟨rfl, rfl⟩; rw [H1.out])
          go_round
          case rel => exact .inr (.inr (.inl ⟨rfl, rfl⟩))
          case measure => simp [intOf]
        · go_wp2_with (go_at_call 32; refine (impl_hasDigit_c _ _ _ (by decide) (by decide)).mono ?_; rintro e w' ⟨rfl, rfl⟩; rw [H2.out])
          go_round
          case rel => exact .inr (.inr (.inr ⟨rfl, rfl⟩))
          case measure => simp [intOf]
        · go_wp2_with (at_builtin; refine app1 Try.underlying25 infoInt64 rfl (by decide) rfl _ _ rfl _ _ _ rfl (ho.alloc _) _ _ _ rfl (cell_new1 _ _ _) rfl (by simp) (by simp; omega) ?_; intro v' w1 ho1 hb1)
          go_roundw
          case rel => exact ⟨(hb.alloc hz _).trans hb1, .inr (.inr (.inr (.inr (.inr (.inr (.inl ⟨rfl, ho1⟩))))))⟩
          case measure => simp [intOf]
    · have hw : wt 7 = 3 := HW.out.2.2.2.2.2.2
      have HX := Lib.hid hw
      have HH := HD.out.2.2.2
      obtain ⟨hh0, hh1, hh2⟩ := HH
      have H0 := Lib.hid hh0
      have H1 := Lib.hid hh1
      have H2 := Lib.hid hh2
      have ho0 : bits .or .i64 64 1 = 65 := by decide +kernel
      have ho1 : bits .or .i64 65 2 = 67 := by decide +kernel
      have ho2 : bits .or .i64 67 8 = 75 := by decide +kernel
      clear hw hh0 hh1 hh2
      go_wp2_with (go_at_call 31; refine (impl_weightOf_w _ _ (by decide) (by decide)).mono ?_; rintro e w' ⟨rfl, rfl⟩; rw [HX.out])
      go_loop [7, 29] (fun x j => (j = .int .i64 0 ∧ x = .int .i64 64) ∨ (j = .int .i64 1 ∧ x = .int .i64 65) ∨ (j = .int .i64 2 ∧ x = .int .i64 67) ∨ (j = .int .i64 3 ∧ x = .int .i64 75)) (fun _ j => 3 - (intOf j).toNat)
      case atStart => exact .inl ⟨rfl, rfl⟩
      case round =>
        rcases hrel with ⟨rfl, rfl⟩ | ⟨rfl, rfl⟩ | ⟨rfl, rfl⟩ | ⟨rfl, rfl⟩
        · go_wp2_with (go_at_call 32; refine (impl_hasDigit_c _ _ _ (by decide) (by decide)).mono ?_; rintro e w' ⟨rfl, rfl⟩; rw [H0.out])
          go_round
          case rel => exact .inr (.inl ⟨rfl, rfl⟩)
          case measure => simp [intOf]
        · go_wp2_with (go_at_call 32; refine (impl_hasDigit_c _ _ _ (by decide) (by decide)).mono ?_; rintro e w' ⟨rfl, rfl⟩; rw [H1.out])
          go_round
          case rel => exact .inr (.inr (.inl ⟨rfl, rfl⟩))
          case measure => simp [intOf]
        · go_wp2_with (go_at_call 32; refine (impl_hasDigit_c _ _ _ (by decide) (by decide)).mono ?_; rintro e w' ⟨rfl, rfl⟩; rw [H2.out])
          go_round
          case rel => exact .inr (.inr (.inr ⟨rfl, rfl⟩))
          case measure => simp [intOf]
        · go_wp2_with (at_builtin; refine app1 Try.underlying25 infoInt64 rfl (by decide) rfl _ _ rfl _ _ _ rfl (ho.alloc _) _ _ _ rfl (cell_new1 _ _ _) rfl (by simp) (by simp; omega) ?_; intro v' w1 ho1 hb1)
          go_roundw
          case rel => exact ⟨(hb.alloc hz _).trans hb1, .inr (.inr (.inr (.inr (.inr (.inr (.inr (⟨rfl, ho1⟩)))))))⟩
          case measure => simp [intOf]
    · have hv := ham_valid
      have HV := Lib.hid hv
      obtain ⟨S, k0, rfl, hp⟩ := ho.opn
      have c0 := (hb.cell (p := ⟨w.heap.size, 0, none⟩) (by simp only []; omega)).trans C0.out
      have c1 := (hb.cell (p := ⟨w.heap.size, 1, none⟩) (by simp only []; omega)).trans C1.out
      have f0 := (hb.frozen (p := ⟨w.heap.size, 0, none⟩) (by simp only []; omega)).trans F0.out
      have f1 := (hb.frozen (p := ⟨w.heap.size, 1, none⟩) (by simp only []; omega)).trans F1.out
      clear hv ho
      go_wp2_with fail
      refine (impl_asParity_y wr 7 S 4 k0 hamL rfl (by decide) (sl_of_own hp) HV.out).mono ?_
      rintro e w4 ⟨rfl, hb4⟩
      have hp4 := own_below hp hb4 (Nat.le_refl _)
      have c0 := (hb4.cell (p := ⟨w.heap.size, 0, none⟩) (by simp only []; omega)).trans c0
      have c1 := (hb4.cell (p := ⟨w.heap.size, 1, none⟩) (by simp only []; omega)).trans c1
      have f0 := (hb4.frozen (p := ⟨w.heap.size, 0, none⟩) (by simp only []; omega)).trans f0
      have f1 := (hb4.frozen (p := ⟨w.heap.size, 1, none⟩) (by simp only []; omega)).trans f1
      have B4 := (B2.trans (hb.mono B2.size)).trans (hb4.mono (Nat.le_trans B2.size hz))
      clear hp hb4
      go_wp2
      refine bodyPost_ret (v := .tuple #[.agg #[.int .i64 7, .slice S 4 k0], .bool true]) (by unfold results; rw [Try.results7]; go_simp) rfl ?_
      refine ⟨_, rfl, ?_, ?_⟩
      · refine own_base (base := w2.heap.size) ?_ (by omega)
        iterate 2 (refine ownsRow_setCell_below ?_ (by simp; omega) _)
        exact hp4
      · iterate 2 (refine Below.setCell ?_ (by simp <;> omega) _)
        exact B4

end Go.Proofs.Ytldnhflgpbcmeaa
