/-
  Contracts: Hamming's code of two digits, codes of one row, cyclic codes, keys of bits, of the program.
  Conditions: as each theorem says.
-/
import Derived.Test.YtldnhflgpbcmeaaEV
import Derived.Test.YtldnhflgpbcmeaaHM
import Derived.Test.YtldnhflgpbcmeaaAP
import Derived.Test.YtldnhflgpbcmeaaOB
import Derived.Test.YtldnhflgpbcmeaaRN
import Derived.Test.YtldnhflgpbcmeaaEJ
import Derived.Test.YtldnhflgpbcmeaaCB
namespace Go.Proofs.Ytldnhflgpbcmeaa
open Go.RowKit

theorem sl_new1 (w : World) (x : Int) : Sl (w.alloc (.cells #[.int .i64 x] 2)) (w.alloc (.cells #[.int .i64 x] 2)).heap.size (some ⟨w.heap.size, 0, none⟩) ([x].map (Value.int .i64)) := by
  have h := row_own (w := w.alloc (.cells #[.int .i64 x] 2)) (base := 0) (g := w.heap.size) (e := 2) (l := [x].map (Value.int .i64)) (Nat.zero_le _) (heap_alloc_new w _) rfl (by simp)
  exact sl_of_own h


set_option maxRecDepth 100000 in
set_option maxHeartbeats 8000000 in
theorem impl_Hamming2_rows (w : World) : Calls Try.prog 7 #[.int .i64 2] w fun e w' => ∃ v, e = .returned (.tuple #[.agg #[.int .i64 3, v], .bool true]) ∧ Ow w' w.heap.size 2 v (([7] : List Int).map (Value.int .i64)) ∧ Below w.heap.size w w' := by
  have hi : inB 2 2 3 = true := by decide
  have HI := Lib.hid hi
  have HW := Lib.hid wts
  have HD := Lib.hid hds
  clear hi
  go_enter Try.func7, Try.ntmps7
  go_wp2_with (go_at_call 30; refine (impl_within_c _ _ _ _).mono ?_; rintro e w' ⟨rfl, rfl⟩; rw [HI.out])
  obtain ⟨w2, e2⟩ : ∃ q : World, q = w.alloc (.cells #[.int .i64 0, .slice none 0 0] 27) := ⟨_, rfl⟩
  have z2 : w.heap.size + 1 = w2.heap.size := by rw [e2]; simp
  have B2 : Below w.heap.size w w2 := by rw [e2]; exact (Below.refl _ _).alloc (Nat.le_refl _) _
  have hO : Obj w2 w.heap.size 27 #[.int .i64 0, .slice none 0 0] := by rw [e2]; exact Obj.new _ _ _
  rw [← e2, z2]
  have HO := Lib.hid hO
  have z3 : w.heap.size < w2.heap.size := by omega
  clear e2 hO z2
  go_loopw [5, 6] (fun v d wr => Below w2.heap.size w2 wr ∧ ((d = .int .i64 1 ∧ Ow wr w2.heap.size 2 v (([] : List Int).map (Value.int .i64))) ∨ (d = .int .i64 2 ∧ Ow wr w2.heap.size 2 v (([] : List Int).map (Value.int .i64))) ∨ (d = .int .i64 3 ∧ Ow wr w2.heap.size 2 v (([] : List Int).map (Value.int .i64))) ∨ (d = .int .i64 4 ∧ Ow wr w2.heap.size 2 v (([7] : List Int).map (Value.int .i64))))) (fun _ d _ => 9 - (intOf d).toNat)
  case atStart => exact ⟨(Below.refl _ _).alloc (Nat.le_refl _) _, .inl ⟨rfl, own_empty _ _ _ (Nat.le_refl _)⟩⟩
  case round =>
    obtain ⟨hb, hr⟩ := hrel
    have hz := hb.size
    rcases hr with ⟨rfl, ho⟩ | ⟨rfl, ho⟩ | ⟨rfl, ho⟩ | ⟨rfl, ho⟩
    · have hw : wt 1 = 1 := HW.out.1
      have HX := Lib.hid hw
      clear hw
      go_wp2_with (go_at_call 31; refine (impl_weightOf_w _ _ (by decide) (by decide)).mono ?_; rintro e w' ⟨rfl, rfl⟩; rw [HX.out])
      go_roundw
      case rel => exact ⟨hb, .inr (.inl ⟨rfl, ho⟩)⟩
      case measure => simp [intOf]
    · have hw : wt 2 = 1 := HW.out.2.1
      have HX := Lib.hid hw
      clear hw
      go_wp2_with (go_at_call 31; refine (impl_weightOf_w _ _ (by decide) (by decide)).mono ?_; rintro e w' ⟨rfl, rfl⟩; rw [HX.out])
      go_roundw
      case rel => exact ⟨hb, .inr (.inr (.inl ⟨rfl, ho⟩))⟩
      case measure => simp [intOf]
    · have hw : wt 3 = 2 := HW.out.2.2.1
      have HX := Lib.hid hw
      have HH := HD.out.1
      obtain ⟨hh0, hh1, -⟩ := HH
      have H0 := Lib.hid hh0
      have H1 := Lib.hid hh1
      have ho0 : bits .or .i64 4 1 = 5 := by decide +kernel
      have ho1 : bits .or .i64 5 2 = 7 := by decide +kernel
      clear hw hh0 hh1
      go_wp2_with (go_at_call 31; refine (impl_weightOf_w _ _ (by decide) (by decide)).mono ?_; rintro e w' ⟨rfl, rfl⟩; rw [HX.out])
      go_loop [7, 29] (fun x j => (j = .int .i64 0 ∧ x = .int .i64 4) ∨ (j = .int .i64 1 ∧ x = .int .i64 5) ∨ (j = .int .i64 2 ∧ x = .int .i64 7)) (fun _ j => 3 - (intOf j).toNat)
      case atStart => exact .inl ⟨rfl, rfl⟩
      case round =>
        rcases hrel with ⟨rfl, rfl⟩ | ⟨rfl, rfl⟩ | ⟨rfl, rfl⟩
        · go_wp2_with (go_at_call 32; refine (impl_hasDigit_c _ _ _ (by decide) (by decide)).mono ?_; rintro e w' ⟨rfl, rfl⟩; rw [H0.out])
          go_round
          case rel => exact .inr (.inl ⟨rfl, rfl⟩)
          case measure => simp [intOf]
        · go_wp2_with (go_at_call 32; refine (impl_hasDigit_c _ _ _ (by decide) (by decide)).mono ?_; rintro e w' ⟨rfl, rfl⟩; rw [H1.out])
          go_round
          case rel => exact .inr (.inr ⟨rfl, rfl⟩)
          case measure => simp [intOf]
        · go_wp2_with (at_builtin; refine app1 Try.underlying25 infoInt64 rfl (by decide) rfl _ _ rfl _ _ _ rfl (ho.alloc _) _ _ _ rfl (cell_new1 _ _ _) rfl (by simp) (by simp; omega) ?_; intro v' w1 ho1 hb1)
          go_roundw
          case rel => exact ⟨(hb.alloc hz _).trans hb1, .inr (.inr (.inr ⟨rfl, ho1⟩))⟩
          case measure => simp [intOf]
    · have HV := Lib.hid ham2.1
      obtain ⟨S, k0, rfl, hp⟩ := ho.opn
      obtain ⟨⟨c0, c1⟩, f0, f1⟩ := (HO.out.below hb z3).two
      clear ho
      go_wp2_with fail
      refine (impl_asParity_c wr 3 S 1 k0 [7] rfl (by decide) (sl_of_own hp)).mono ?_
      rintro e w4 ⟨rfl, hb4⟩
      rw [HV.out]
      simp only [asP]
      have hp4 := own_below hp hb4 (Nat.le_refl _)
      have B4 := (B2.trans (hb.mono B2.size)).trans (hb4.mono (Nat.le_trans B2.size hz))
      clear c0 c1 f0 f1
      obtain ⟨⟨c0, c1⟩, f0, f1⟩ := ((HO.out.below hb z3).below hb4 (by omega)).two
      clear hp hb4
      go_wp2
      refine bodyPost_ret (v := .tuple #[.agg #[.int .i64 3, .slice S 1 k0], .bool true]) (by unfold results; rw [Try.results7]; go_simp) rfl ?_
      refine ⟨_, rfl, ?_, ?_⟩
      · refine own_base (base := w2.heap.size) ?_ (by omega)
        iterate 2 (refine ownsRow_setCell_below ?_ (by simp; omega) _)
        exact hp4
      · iterate 2 (refine Below.setCell ?_ (by simp <;> omega) _)
        exact B4


set_option maxRecDepth 100000 in
set_option maxHeartbeats 1000000 in
theorem impl_RepeatParity_c (w : World) (n : Nat) (h1 : 1 ≤ n) (h9 : n < 10) : Calls Try.prog 10 #[.int .i64 (n : Int)] w fun e w' => ∃ v, e = .returned (.tuple #[.agg #[.int .i64 (n : Int), v], .bool true]) ∧ Ow w' w.heap.size 2 v (([2 ^ n - 1] : List Int).map (Value.int .i64)) ∧ Below w.heap.size w w' := by
  have hi : inB (n : Int) 1 16 = true := by rw [inB_true]; omega
  have HI := Lib.hid hi
  obtain ⟨-, -, hw1, hw2⟩ := wrap16 (M := n) (by omega)
  obtain ⟨g1, g2, -, -⟩ := wrap16 (M := n) (by omega)
  have hp := pow16 (M := n) (by omega)
  have HV := Lib.hid (rep_facts n h9 h1).1
  obtain ⟨P, hP⟩ : ∃ P, (2 : Int) ^ n = P := ⟨_, rfl⟩
  rw [hP] at hw1 hw2 g1 g2 hp HV ⊢
  obtain ⟨w1, e1⟩ : ∃ q : World, q = w.alloc (.cells #[.int .i64 0, .slice none 0 0] 27) := ⟨_, rfl⟩
  have b1 : Below w.heap.size w w1 := by rw [e1]; exact (Below.refl _ _).alloc (Nat.le_refl _) _
  have z1 : w1.heap.size = w.heap.size + 1 := by rw [e1]; simp
  have hO : Obj w1 w.heap.size 27 #[.int .i64 0, .slice none 0 0] := by rw [e1]; exact Obj.new _ _ _
  have HO := Lib.hid hO
  clear hi hO
  have hR := row_own (w := w1.alloc (.cells #[.int .i64 (P - 1)] 2)) (base := w1.heap.size) (g := w1.heap.size) (e := 2) (l := [P - 1].map (Value.int .i64)) (Nat.le_refl _) (heap_alloc_new w1 _) rfl (by simp)
  have bA : Below w1.heap.size w1 (w1.alloc (.cells #[.int .i64 (P - 1)] 2)) := (Below.refl _ _).alloc (Nat.le_refl _) _
  have HA := Lib.hid (impl_asParity_c (w1.alloc (.cells #[.int .i64 (P - 1)] 2)) (n : Int) (some ⟨w1.heap.size, 0, none⟩) 1 1 [P - 1] rfl (by decide) (sl_new1 w1 (P - 1)))
  rw [HV.out] at HA
  simp only [asP] at HA
  have HR := Lib.hid hR
  have HB := Lib.hid bA
  clear hR bA
  go_enter Try.func10, Try.ntmps10
  go_wp2_with (first | (rw [← e1]; clear e1) | (go_at_call 30; refine (impl_within_c _ _ _ _).mono ?_; rintro e w' ⟨rfl, rfl⟩; rw [HI.out]))
  rw [← z1]
  refine HA.out.mono ?_
  rintro e w4 ⟨rfl, b4⟩
  have hp4 := own_below HR.out b4 (Nat.le_refl _)
  have B4 := b1.trans ((HB.out.trans (b4.mono HB.out.size)).mono b1.size)
  obtain ⟨⟨c0, c1⟩, f0, f1⟩ := ((HO.out.below HB.out (by omega)).below b4 (by simp; omega)).two
  clear b4
  go_wp2
  refine bodyPost_ret (v := .tuple #[.agg #[.int .i64 (n : Int), .slice (some ⟨w1.heap.size, 0, none⟩) 1 1], .bool true]) (by unfold results; rw [Try.results10]; go_simp) rfl ?_
  refine ⟨_, rfl, ?_, ?_⟩
  · refine own_base (base := w1.heap.size) ?_ (by omega)
    iterate 2 (refine ownsRow_setCell_below ?_ (by simp; omega) _)
    exact hp4
  · iterate 2 (refine Below.setCell ?_ (by simp <;> omega) _)
    exact B4


/-- the first rows of a cyclic code -/
def cycK (p k : Nat) : List Int := (List.range k).map fun i => ((p * 2 ^ i : Nat) : Int)
theorem cycK_succ (p k : Nat) : cycK p (k + 1) = cycK p k ++ [((p * 2 ^ k : Nat) : Int)] := by simp [cycK, List.range_succ]
theorem cycK_len (p k : Nat) : (cycK p k).length = k := by simp [cycK]
theorem cyc_end : ∀ q < 8, ∀ k < 9, 256 ≤ (1 + 2 * q) * 2 ^ k → (k = 0 ∨ (1 + 2 * q) * 2 ^ (k - 1) < 256) → cycK (1 + 2 * q) k = cycL (1 + 2 * q) := by decide +kernel
set_option maxRecDepth 100000 in
set_option maxHeartbeats 1000000 in
theorem impl_CyclicOf_c (w : World) (q : Nat) (hq : q < 8) : Calls Try.prog 11 #[.int .i64 8, .int .i64 ((1 + 2 * q : Nat) : Int)] w fun e w' => ∃ v, e = .returned (.tuple #[.agg #[.int .i64 8, v], .bool true]) ∧ Ow w' w.heap.size 2 v ((cycL (1 + 2 * q)).map (Value.int .i64)) ∧ Below w.heap.size w w' := by
  obtain ⟨hv, -, -, hl1, hl8⟩ := cyc_facts q hq
  have hend := cyc_end q hq
  obtain ⟨p, hp⟩ : ∃ p, 1 + 2 * q = p := ⟨_, rfl⟩
  rw [hp] at hv hl1 hl8 hend ⊢
  have hp1 : 1 ≤ p ∧ p ≤ 15 ∧ p % 2 = 1 := by omega
  have hi1 : inB (8 : Int) 1 16 = true := by decide
  have hi2 : inB (p : Int) 1 255 = true := by rw [inB_true]; omega
  have hm2 : (p : Int) % 2 = 1 := by omega
  have hm3 : (p : Int).tmod 2 = 1 := by rw [Int.tmod_eq_emod_of_nonneg (by omega)]; exact hm2
  have HI1 := Lib.hid hi1
  have HI2 := Lib.hid hi2
  have HE := Lib.hid hend
  have HV := Lib.hid hv
  obtain ⟨w1, e1⟩ : ∃ q : World, q = w.alloc (.cells #[.int .i64 0, .slice none 0 0] 27) := ⟨_, rfl⟩
  have b1 : Below w.heap.size w w1 := by rw [e1]; exact (Below.refl _ _).alloc (Nat.le_refl _) _
  have z1 : w1.heap.size = w.heap.size + 1 := by rw [e1]; simp
  have hO : Obj w1 w.heap.size 27 #[.int .i64 0, .slice none 0 0] := by rw [e1]; exact Obj.new _ _ _
  have HO := Lib.hid hO
  have hz1 : w.heap.size < w1.heap.size := by omega
  have hpp := hp1.2.2
  clear hi1 hi2 hend hv hp hO z1
  go_enter Try.func11, Try.ntmps11
  go_wp2_with (first | (rw [← e1]; clear e1) | (go_at_call 30; refine (impl_within_c _ _ _ _).mono ?_; rintro e w' ⟨rfl, rfl⟩; first | rw [HI1.out] | rw [HI2.out]))
  go_loopw [6, 7] (fun v x wr => ∃ k : Nat, k ≤ 8 ∧ x = .int .i64 ((p * 2 ^ k : Nat) : Int) ∧ (k = 0 ∨ p * 2 ^ (k - 1) < 256) ∧ p * 2 ^ k < 512 ∧ 1 ≤ p * 2 ^ k ∧ Ow wr w1.heap.size 2 v ((cycK p k).map (Value.int .i64)) ∧ Below w1.heap.size w1 wr) (fun _ x _ => 1024 - (intOf x).toNat)
  case atStart => exact ⟨0, by omega, by simp, .inl rfl, by omega, by omega, own_empty _ _ _ (Nat.le_refl _), (Below.refl _ _).alloc (Nat.le_refl _) _⟩
  case round =>
    obtain ⟨k, hk, rfl, hk2, hk3, hk1, ho, hb⟩ := hrel
    have hz := hb.size
    have hst := cycK_succ p k
    have hen := HE.out k (by omega)
    have hpw : p * 2 ^ (k + 1) = p * 2 ^ k + p * 2 ^ k := by rw [Nat.pow_succ, ← Nat.mul_assoc]; omega
    have h8 : k = 8 → 256 ≤ p * 2 ^ k := fun e => by subst e; omega
    obtain ⟨y, hy⟩ : ∃ y, p * 2 ^ k = y := ⟨_, rfl⟩
    rw [hy] at hk3 hk1 hst hen hpw h8 ⊢
    have hlen : ((cycK p k).map (Value.int .i64)).length + 1 ≤ 1099511627776 := by rw [List.length_map, cycK_len]; omega
    have HT := Lib.hid hst
    have HEN := Lib.hid hen
    have HPW := Lib.hid hpw
    have HK2 := Lib.hid hk2
    have HY := Lib.hid hy
    have hiw := inB_true (n := (y : Int)) (lo := 0) (hi := 2 ^ 8 - 1)
    clear hst hen hpw hk2 hy
    by_cases hlt : y < 256
    · have hib : inB (y : Int) 0 (2 ^ 8 - 1) = true := hiw.2 (by omega)
      have HIB := Lib.hid hib
      have hk7 : k ≤ 7 := by omega
      clear hib hiw h8
      go_wp2_with (first
        | (go_at_call 36; refine (impl_isWordOf_c _ (y : Int) 8 (by decide)).mono ?_; rintro e w' ⟨rfl, rfl⟩; rw [HIB.out])
        | (at_builtin; refine app1 Try.underlying25 infoInt64 rfl (by decide) rfl _ _ rfl _ _ _ rfl (ho.alloc _) _ _ _ rfl (cell_new1 _ _ _) rfl hlen (by simp; omega) ?_; intro v' w2 ho2 hb2))
      go_roundw
      case rel =>
        refine ⟨k + 1, by omega, ?_, .inr (by rw [Nat.add_sub_cancel, HY.out]; exact hlt), by rw [HPW.out]; omega, by rw [HPW.out]; omega, ?_, (hb.alloc hz _).trans hb2⟩
        · rw [HPW.out]; exact congrArg (Value.int .i64) (by push_cast; omega)
        · rw [HT.out, List.map_append]
          exact ho2
      case measure => simp [intOf]; omega
    · have hib : inB (y : Int) 0 (2 ^ 8 - 1) = false := by
        cases h : inB (y : Int) 0 (2 ^ 8 - 1)
        · rfl
        · have := hiw.1 h; omega
      have HIB := Lib.hid hib
      have hcy := HEN.out (by omega) HK2.out
      rw [hcy] at ho
      obtain ⟨S, k0, rfl, hp⟩ := ho.opn
      obtain ⟨⟨c0, c1⟩, f0, f1⟩ := (HO.out.below hb hz1).two
      have HA := Lib.hid (impl_asParity_c wr 8 S _ k0 (cycL p) rfl (by omega) (sl_of_own hp))
      rw [HV.out] at HA
      simp only [asP] at HA
      obtain ⟨L, hL⟩ : ∃ L, (cycL p).length = L := ⟨_, rfl⟩
      rw [hL] at hp HA ⊢
      have HP := Lib.hid hp
      have HL := Lib.hid hL
      clear hib hiw h8 ho hp hcy hL hl1 hl8 hlen
      go_wp2_with (go_at_call 36; refine (impl_isWordOf_c _ (y : Int) 8 (by decide)).mono ?_; rintro e w' ⟨rfl, rfl⟩; rw [HIB.out])
      refine HA.out.mono ?_
      rintro e w4 ⟨rfl, b4⟩
      have hp4 := own_below HP.out b4 (Nat.le_refl _)
      have B4 := (b1.trans (hb.mono b1.size)).trans (b4.mono (Nat.le_trans b1.size hz))
      clear c0 c1 f0 f1
      obtain ⟨⟨c0, c1⟩, f0, f1⟩ := ((HO.out.below hb hz1).below b4 (by omega)).two
      clear b4
      go_wp2
      refine bodyPost_ret (v := .tuple #[.agg #[.int .i64 8, .slice S L k0], .bool true]) (by unfold results; rw [Try.results11]; go_simp) rfl ?_
      refine ⟨_, rfl, ?_, ?_⟩
      · unfold Ow
        rw [List.length_map, HL.out]
        refine own_base (base := w1.heap.size) ?_ (by omega)
        iterate 2 (refine ownsRow_setCell_below ?_ (by simp; omega) _)
        exact hp4
      · iterate 2 (refine Below.setCell ?_ (by simp <;> omega) _)
        exact B4


set_option maxRecDepth 100000 in
set_option maxHeartbeats 1000000 in
theorem impl_KeyOfBits_c (w : World) (x n s : Nat) (hx : x < 65536) (h1 : 1 ≤ n) (h16 : n ≤ 16) (hs : s < 4294967296) : Calls Try.prog 18 #[.int .i64 (x : Int), .int .i64 (n : Int), .int .i64 (s : Int)] w fun e w' => e = .returned (.tuple #[.int .i64 (keyN x s n : Int), .bool true]) ∧ w = w' := by
  have hi1 : inB (x : Int) 0 (2 ^ 16 - 1) = true := by rw [inB_true]; omega
  have hi2 : inB (n : Int) 1 16 = true := by rw [inB_true]; omega
  have hi3 : inB (s : Int) 0 4294967295 = true := by rw [inB_true]; omega
  have HI1 := Lib.hid hi1
  have HI2 := Lib.hid hi2
  have HI3 := Lib.hid hi3
  clear hi1 hi2 hi3
  go_enter Try.func18, Try.ntmps18
  go_wp2_with (first
    | (go_at_call 36; refine (impl_isWordOf_c _ (x : Int) 16 (by decide)).mono ?_; rintro e w' ⟨rfl, rfl⟩; rw [HI1.out])
    | (go_at_call 30; refine (impl_within_c _ _ _ _).mono ?_; rintro e w' ⟨rfl, rfl⟩; rw [HI2.out])
    | (go_at_call 44; refine (impl_isSeed_c _ _).mono ?_; rintro e w' ⟨rfl, rfl⟩; rw [HI3.out]))
  go_loop [2, 8, 24] (fun u o i => ∃ k : Nat, k ≤ n ∧ i = .int .i64 k ∧ u = .int .i64 (seedN s k : Int) ∧ o = .int .i64 (keyN x s k : Int)) (fun _ _ i => n - (intOf i).toNat)
  case atStart => exact ⟨0, Nat.zero_le _, rfl, rfl, rfl⟩
  case round =>
    obtain ⟨k, hk, rfl, rfl, rfl⟩ := hrel
    by_cases hlt : k < n
    · have hs1 := seedN_lt hs k
      have hs2 := seedN_lt hs (k + 1)
      have hse : seedN s (k + 1) = (1664525 * seedN s k + 1013904223) % 4294967296 := rfl
      have hks := keyN_succ x s k
      have hkl := keyN_lt x s (Nat.le_of_lt hlt)
      have hkl2 : keyN x s k < 65536 := Nat.lt_of_lt_of_le hkl (pow16N h16)
      obtain ⟨a, ha⟩ : ∃ a, seedN s k = a := ⟨_, rfl⟩
      obtain ⟨b, hb⟩ : ∃ b, seedN s (k + 1) = b := ⟨_, rfl⟩
      rw [ha] at hs1 hse ⊢
      rw [hb] at hs2 hse hks
      have hm : ((1664525 * (a : Int) + 1013904223).tmod 4294967296) = (b : Int) := by
        rw [Int.tmod_eq_emod_of_nonneg (by omega)]
        omega
      obtain ⟨t, ht⟩ : ∃ t, b / 65536 = t := ⟨_, rfl⟩
      have ht2 : t < 65536 := by omega
      have htI : (b : Int) / 65536 = (t : Int) := by omega
      rw [ht] at hks
      have hod := odd_dot hx ht2
      have han := and_nat x t hx ht2
      have hab : x &&& t ≤ x := Nat.and_le_left
      obtain ⟨K, hK⟩ : ∃ K, keyN x s k = K := ⟨_, rfl⟩
      rw [hK] at hks hkl hkl2 ⊢
      have hp2 : 2 ^ k < 65536 := Nat.pow_lt_pow_right (n := 16) (by decide) (by omega)
      have hor := or_nat K (2 ^ k) hkl2 hp2
      push_cast at hor
      obtain ⟨hw1, hw2, -, -⟩ := wrap16 (M := k) (by omega)
      have hx0 : 0 ≤ bits .and .i64 (x : Int) (t : Int) ∧ bits .and .i64 (x : Int) (t : Int) < 65536 := by rw [han]; omega
      have HX0 := Lib.hid hx0
      have HOD := Lib.hid hod
      have HB := Lib.hid hb
      have HSE := Lib.hid hse
      clear han hab ht hod hx0 hb hse ha hkl hK
      cases hd : dot x t 16
      · rw [hd] at hks
        have HKS := Lib.hid hks
        have HDD := Lib.hid hd
        clear hks hd
        go_wp2_with (go_at_call 41; refine (impl_isOdd_w _ _ HX0.out.1 HX0.out.2).mono ?_; rintro e w' ⟨rfl, rfl⟩; rw [HOD.out, HDD.out])
        go_round
        case rel => exact ⟨k + 1, by omega, by go_num, by rw [HB.out], by rw [HKS.out]; rfl⟩
        case measure => simp [intOf]; omega
      · rw [hd] at hks
        have HKS := Lib.hid hks
        have HDD := Lib.hid hd
        clear hks hd
        go_wp2_with (go_at_call 41; refine (impl_isOdd_w _ _ HX0.out.1 HX0.out.2).mono ?_; rintro e w' ⟨rfl, rfl⟩; rw [HOD.out, HDD.out])
        go_round
        case rel => exact ⟨k + 1, by omega, by go_num, by rw [HB.out], by rw [HKS.out]; first | rfl | (rw [hor]; rfl)⟩
        case measure => simp [intOf]; omega
    · obtain rfl : k = n := by omega
      go_wp2
      go_ret2
      exact ⟨rfl, rfl⟩

end Go.Proofs.Ytldnhflgpbcmeaa
