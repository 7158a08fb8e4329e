/-
  FnBuilt returns true for every input, and leaves its arguments as they were.
  Conditions: none beyond the given statement's own.
-/
import Derived.Test.YtldnhflgpbcmeaaEX
import Derived.Test.YtldnhflgpbcmeaaEY
import Derived.Test.YtldnhflgpbcmeaaEO
import Derived.Test.YtldnhflgpbcmeaaEK
import Derived.Test.YtldnhflgpbcmeaaEQ
import Derived.Deep.QuietTactic
import Derived.BigQuiet
namespace Go.Proofs.Ytldnhflgpbcmeaa
open Go.RowKit

theorem ham_c (w : World) (r : Int) (hr : r = 2 ∨ r = 3) : Calls Try.prog 7 #[.int .i64 r] w fun e w' => ∃ (N : Nat) (v : Value) (ys : List Int), e = .returned (.tuple #[.agg #[.int .i64 (N : Int), v], .bool true]) ∧ validParB (N : Int) ys = true ∧ perfV (N : Int) ys = true ∧ distV (N : Int) ys = 3 ∧ ys.length ≤ 8 ∧ Ow w' w.heap.size 2 v (ys.map (Value.int .i64)) ∧ Below w.heap.size w w' := by
  rcases hr with rfl | rfl
  · refine (impl_Hamming2_rows w).mono ?_
    rintro e w' ⟨v, rfl, ho, hb⟩
    exact ⟨3, v, [7], rfl, ham2.1, ham2.2.1, ham2.2.2, by decide, ho, hb⟩
  · refine (impl_Hamming3_rows w).mono ?_
    rintro e w' ⟨v, rfl, ho, hb⟩
    exact ⟨7, v, hamL, rfl, ham3.1, ham3.2.1, ham3.2.2, by decide, ho, hb⟩
/-- a code in a world, behind another one -/
def Code2 (D : World) (P : Nat) (M : Int) (n cap : Nat) (A : Option Addr) (xs : List Int) (W : World) : Prop := Below D.heap.size D W ∧ P < D.heap.size ∧ Obj D P 27 #[.int .i64 M, .slice A n cap] ∧ Sl D D.heap.size A (xs.map (Value.int .i64))
theorem Code2.cells {D : World} {P n cap : Nat} {M : Int} {A : Option Addr} {xs : List Int} {W : World} (h : Code2 D P M n cap A xs W) : W.cell? ⟨P, 0, none⟩ = some (.int .i64 M) ∧ W.cell? ⟨P, 1, none⟩ = some (.slice A n cap) := (h.2.2.1.below h.1 h.2.1).two.1
theorem Code2.sl {D : World} {P n cap : Nat} {M : Int} {A : Option Addr} {xs : List Int} {W : World} (h : Code2 D P M n cap A xs W) : Sl W W.heap.size A (xs.map (Value.int .i64)) := (h.2.2.2.below h.1).more h.1.size
theorem Code2.next {D : World} {P n cap : Nat} {M : Int} {A : Option Addr} {xs : List Int} {W W' : World} (h : Code2 D P M n cap A xs W) (b : Below W.heap.size W W') : Code2 D P M n cap A xs W' := ⟨h.1.trans (b.mono h.1.size), h.2⟩
theorem Code2.drewN {D : World} {P n cap : Nat} {M : Int} {A : Option Addr} {xs : List Int} {W : World} (h : Code2 D P M n cap A xs W) (k : Nat) : Code2 D P M n cap A xs (W.drewN k) := ⟨below_drewN h.1 k, h.2⟩
theorem sl_cells {w : World} {B : Nat} {A : Option Addr} {l : List Int} (h : Sl w B A (l.map (Value.int .i64))) (h0 : 0 < l.length) : ∃ b off, A = some ⟨b, off, none⟩ ∧ b < B ∧ ∀ k, k < l.length → w.cell? ⟨b, off + k, none⟩ = some (.int .i64 (l.getD k 0)) := by
  obtain ⟨b, off, rfl, hb, _⟩ := sl_cell h h0
  refine ⟨b, off, rfl, hb, fun k hk => ?_⟩
  obtain ⟨b2, off2, e, _, hc⟩ := sl_cell h hk
  cases e
  exact hc
theorem code_new {w1 : World} {M : Int} {A : Option Addr} {n cap : Nat} {xs : List Int} (hx : Sl w1 w1.heap.size A (xs.map (Value.int .i64))) : Code2 (w1.alloc (.cells #[.int .i64 M, .slice A n cap] 27)) w1.heap.size M n cap A xs (w1.alloc (.cells #[.int .i64 M, .slice A n cap] 27)) :=
  ⟨Below.refl _ _, by simp, Obj.new _ _ _, (hx.alloc (Nat.le_refl _) _).more (by simp)⟩

set_option maxRecDepth 100000 in
set_option maxHeartbeats 20000000 in
theorem law_FnBuilt (w : World) (A1 : Option Addr) (n1 cap1 : Nat) (c : List Int) (A2 : Option Addr) (n2 cap2 : Nat) (m : List Int) (hl1 : c.length = n1) (hm1 : n1 ≤ maxLen) (hb1 : ∀ x ∈ c, 0 ≤ x ∧ x ≤ 255) (hx1 : Sl w w.heap.size A1 (c.map (Value.int .u8)))
    (hl2 : m.length = n2) (hm2 : n2 ≤ maxLen) (hb2 : ∀ x ∈ m, 0 ≤ x ∧ x ≤ 255) (hx2 : Sl w w.heap.size A2 (m.map (Value.int .u8))) :
    Calls Try.prog 3 #[.slice A1 n1 cap1, .slice A2 n2 cap2] w fun e w' => e = .returned (.bool true) ∧ Below w.heap.size w w' := by
  by_cases hlong : 48 < n1 ∨ 48 < n2
  · go_enter Try.func3, Try.ntmps3
    go_wp2_with (go_at_call 5; refine (r8Long_c _ _ _ _ _ _ _ true (by simp; omega) hm1 hm2).mono ?_; rintro e w' ⟨rfl, rfl⟩)
    go_ret
    exact ⟨rfl, Below.refl _ _⟩
  have hn1 : n1 ≤ 48 := by omega
  have hn2 : n2 ≤ 48 := by omega
  have hfl : false = (decide (48 < n1) || decide (48 < n2)) := by rw [decide_eq_false (by omega), decide_eq_false (by omega)]; rfl
  have HFL := Lib.hid (r8Long_c w A1 A2 n1 cap1 n2 cap2 false hfl hm1 hm2)
  have HR8 := Lib.hid (fun (W : World) (hb : Below w.heap.size w W) => R8Parity_c W A1 n1 cap1 c hl1 (by omega) hb1 ((hx1.below hb).more hb.size))
  have HAT := Lib.hid (fun (W : World) (hb : Below w.heap.size w W) (i q : Int) (g0 : 0 ≤ i) (g1 : i ≤ 1048576) (g3 : q ≤ 1048576) => r8At_c W w.heap.size A2 n2 cap2 m hl2 hb2 (hx2.below hb) i q g0 g1 g3)
  clear hfl hlong hb1 hb2 hx1 hx2
  have ht1 := r8V_bd m 0 2 (by decide)
  obtain ⟨a, ha⟩ : ∃ a, r8V m 0 2 = a := ⟨_, rfl⟩
  rw [ha] at ht1
  have HA0 := Lib.hid ha
  have HHM := Lib.hid (fun W : World => ham_c W (2 + a) (by omega))
  clear ha
  go_enter Try.func3, Try.ntmps3
  go_wp2_with fail
  refine HFL.out.mono ?_
  rintro e w' ⟨rfl, rfl⟩
  go_wp2_with fail
  refine (HAT.out w (Below.refl _ _) 0 2 (by decide) (by decide) (by decide)).mono ?_
  rintro e w' ⟨rfl, rfl⟩
  rw [HA0.out]
  go_wp2_with fail
  refine (HHM.out w).mono ?_
  rintro e w1 ⟨N1, v1, ys, rfl, hv1, hpf1, hds1, hy8, ho1, b1⟩
  obtain ⟨Y1, k1, rfl, hp1⟩ := ho1.opn
  obtain ⟨y1, hy1⟩ : ∃ y1, ys.length = y1 := ⟨_, rfl⟩
  rw [hy1] at hp1 hy8 ⊢
  have hC1 := code_new (M := (N1 : Int)) (n := y1) (cap := k1) (sl_of_own hp1)
  have bD : Below w1.heap.size w1 (w1.alloc (.cells #[.int .i64 (N1 : Int), .slice Y1 y1 k1] 27)) := (Below.refl _ _).alloc (Nat.le_refl _) _
  obtain ⟨D1, e1⟩ : ∃ q : World, q = w1.alloc (.cells #[.int .i64 (N1 : Int), .slice Y1 y1 k1] 27) := ⟨_, rfl⟩
  rw [← e1] at hC1 bD
  have B1 := b1.trans (bD.mono b1.size)
  have HC1 := Lib.hid hC1
  have HV1 := Lib.hid hv1
  have HPF1 := Lib.hid hpf1
  have HDS1 := Lib.hid hds1
  have HY1 := Lib.hid hy1
  obtain ⟨C0, C1⟩ := hC1.cells
  clear hC1 bD hv1 hpf1 hds1 hy1 ho1 hp1
  go_wp2_with (rw [← e1]; clear e1)
  refine (impl_IsPerfect_c D1 N1 Y1 y1 k1 ys HY1.out (by omega) HC1.out.sl).mono ?_
  rintro e w2 ⟨rfl, b2⟩
  rw [HPF1.out, HV1.out]
  have HC2 := Lib.hid (HC1.out.next b2)
  have B2 := B1.trans (b2.mono B1.size)
  clear C0 C1 b2
  obtain ⟨C0, C1⟩ := HC2.out.cells
  go_wp2_with fail
  refine (impl_DistanceOf_c w2 N1 Y1 y1 k1 ys HY1.out (by omega) HC2.out.sl).mono ?_
  rintro e w3 ⟨rfl, b3⟩
  rw [HDS1.out, HV1.out]
  have B3 := B2.trans (b3.mono B2.size)
  clear C0 C1 b3
  have ht2 := r8V_bd m 1 9 (by decide)
  obtain ⟨n, hn⟩ : ∃ n : Nat, 1 + r8V m 1 9 = (n : Int) := ⟨(1 + r8V m 1 9).toNat, by omega⟩
  have hn9 : 1 ≤ n ∧ n < 10 := by omega
  have HNN := Lib.hid hn
  clear hn ht2
  go_wp2_with fail
  refine (HAT.out w3 B3 1 9 (by decide) (by decide) (by decide)).mono ?_
  rintro e w' ⟨rfl, rfl⟩
  have ht2 := r8V_bd m 1 9 (by decide)
  go_wp2_with fail
  rw [HNN.out]
  clear ht2
  obtain ⟨hrv, hrd, hrp⟩ := rep_facts n hn9.2 hn9.1
  have hq4 := hn9.1
  have hq5 := hn9.2
  refine (impl_RepeatParity_c w3 n hn9.1 hn9.2).mono ?_
  rintro e w4 ⟨v4, rfl, ho4, b4⟩
  obtain ⟨A4, k4, rfl, hp4⟩ := ho4.opn
  rw [show ([2 ^ n - 1] : List Int).length = 1 from rfl] at hp4 ⊢
  obtain ⟨rs, hrs⟩ : ∃ rs, ([2 ^ n - 1] : List Int) = rs := ⟨_, rfl⟩
  have hrl : rs.length = 1 := by rw [← hrs]; rfl
  rw [hrs] at hrv hrd hrp hp4
  obtain ⟨pb, hpb⟩ : ∃ pb, perfV (n : Int) rs = pb := ⟨_, rfl⟩
  have hpn : ((n : Int).tmod 2 == 1) = pb := by
    rw [Int.tmod_eq_emod_of_nonneg (by omega), ← hpb, hrp]
    by_cases h : n % 2 = 1
    · rw [h, show ((n : Int) % 2) = 1 by omega]; rfl
    · rw [show n % 2 = 0 by omega, show ((n : Int) % 2) = 0 by omega]; rfl
  have hpe : ((n : Int) % 2 == 1) = pb := by rw [← hpn, Int.tmod_eq_emod_of_nonneg (by omega)]
  have hpp : (pb != pb) = false := by cases pb <;> rfl
  have hC4 := code_new (M := (n : Int)) (n := 1) (cap := k4) (sl_of_own hp4)
  have bD4 : Below w4.heap.size w4 (w4.alloc (.cells #[.int .i64 (n : Int), .slice A4 1 k4] 27)) := (Below.refl _ _).alloc (Nat.le_refl _) _
  obtain ⟨D4, e4⟩ : ∃ q : World, q = w4.alloc (.cells #[.int .i64 (n : Int), .slice A4 1 k4] 27) := ⟨_, rfl⟩
  rw [← e4] at hC4 bD4
  have B4 := (B3.trans (b4.mono B3.size)).trans (bD4.mono (Nat.le_trans B3.size b4.size))
  have HC4 := Lib.hid hC4
  have HRV := Lib.hid hrv
  have HRD := Lib.hid hrd
  have HRL := Lib.hid hrl
  have HPB := Lib.hid hpb
  obtain ⟨C0, C1⟩ := hC4.cells
  clear hC4 bD4 hrv hrd hrp hrl hpb hrs ho4 hp4 b4
  go_wp2_with (rw [← e4]; clear e4)
  refine (impl_DistanceOf_c D4 n A4 1 k4 rs HRL.out (by decide) HC4.out.sl).mono ?_
  rintro e w5 ⟨rfl, b5⟩
  rw [HRD.out, HRV.out]
  have HC5 := Lib.hid (HC4.out.next b5)
  have B5 := B4.trans (b5.mono B4.size)
  clear C0 C1 b5
  obtain ⟨C0, C1⟩ := HC5.out.cells
  go_wp2_with fail
  refine (impl_IsPerfect_c w5 n A4 1 k4 rs HRL.out (by decide) HC5.out.sl).mono ?_
  rintro e w6 ⟨rfl, b6⟩
  rw [HPB.out, HRV.out]
  have B6 := B5.trans (b6.mono B5.size)
  clear C0 C1 b6
  go_wp2_with fail
  refine (HAT.out w6 B6 2 8 (by decide) (by decide) (by decide)).mono ?_
  rintro e w' ⟨rfl, rfl⟩
  have ht3 := r8V_bd m 2 8 (by decide)
  obtain ⟨q, hq⟩ : ∃ q : Nat, r8V m 2 8 = (q : Int) := ⟨_, (Int.toNat_of_nonneg ht3.1).symm⟩
  rw [hq] at ht3 ⊢
  have hq8 : q < 8 := by omega
  clear ht3 hq hpn hpe hpp
  obtain ⟨hcv, hce, hc0, hcl1, hcl8⟩ := cyc_facts q hq8
  have HCY := Lib.hid (impl_CyclicOf_c w6 q hq8)
  push_cast at HCY hce hc0
  obtain ⟨cs, hcs⟩ : ∃ cs, cycL (1 + 2 * q) = cs := ⟨_, rfl⟩
  rw [hcs] at HCY hcv hce hc0 hcl1 hcl8
  obtain ⟨cn, hcn⟩ : ∃ cn, cs.length = cn := ⟨_, rfl⟩
  have hcn8 : 1 ≤ cn ∧ cn ≤ 8 := by omega
  have HCV := Lib.hid hcv
  have HCE := Lib.hid hce
  have HCO := Lib.hid hc0
  have HCN := Lib.hid hcn
  clear hcv hce hc0 hcl1 hcl8 hcs hcn
  go_wp2_with fail
  refine HCY.out.mono ?_
  rintro e w7 ⟨v7, rfl, ho7, b7⟩
  obtain ⟨A7, k7, rfl, hp7⟩ := ho7.opn
  rw [HCN.out] at hp7 ⊢
  have hC7 := code_new (M := (8 : Int)) (n := cn) (cap := k7) (sl_of_own hp7)
  have bD7 : Below w7.heap.size w7 (w7.alloc (.cells #[.int .i64 8, .slice A7 cn k7] 27)) := (Below.refl _ _).alloc (Nat.le_refl _) _
  obtain ⟨D7, e7⟩ : ∃ q : World, q = w7.alloc (.cells #[.int .i64 8, .slice A7 cn k7] 27) := ⟨_, rfl⟩
  rw [← e7] at hC7 bD7
  have B7 := (B6.trans (b7.mono B6.size)).trans (bD7.mono (Nat.le_trans B6.size b7.size))
  have HC7 := Lib.hid hC7
  obtain ⟨C0, C1⟩ := hC7.cells
  clear hC7 bD7 ho7 hp7 b7
  have hcan := can_yes (M := 8) (xs := cs) HCV.out (x := 1 + 2 * (q : Int)) (by omega) (by omega)
  have hex : ∃ k : Nat, k < 2 ^ cn ∧ encL cs (k : Int) = 1 + 2 * (q : Int) := ⟨1, Nat.lt_of_lt_of_le (by decide) (Nat.pow_le_pow_right (by decide) hcn8.1), HCE.out⟩
  have HCAN := Lib.hid hcan
  have HEX := Lib.hid hex
  clear hcan hex
  go_wp2_with (rw [← e7]; clear e7)
  refine (impl_InCode_c D7 8 A7 cn k7 cs HCN.out hcn8.2 HC7.out.sl _ HCAN.out HEX.out).mono ?_
  rintro e w8 ⟨rfl, b8⟩
  have HC8 := Lib.hid (HC7.out.next b8)
  have B8 := B7.trans (b8.mono B7.size)
  clear C0 C1 b8
  obtain ⟨C0, C1⟩ := HC8.out.cells
  obtain ⟨b, off, hA7, -, hcs⟩ := sl_cells (HC8.out.sl) (by rw [HCN.out]; omega)
  have hcs0 : w8.cell? ⟨b, off, none⟩ = some (.int .i64 (1 + 2 * (q : Int))) := by have := hcs 0 (by rw [HCN.out]; omega); rw [HCO.out] at this; exact this
  subst hA7
  clear hcs
  go_wp2_with fail
  refine (HR8.out w8 B8).mono ?_
  rintro e w9 ⟨M, v9, xs, rfl, hM2, hM8, ho9, hv, hn4, b9⟩
  clear C0 C1 hcs0
  have hs0 := r8V_bd m 3 256 (by decide)
  obtain ⟨s0, hs⟩ : ∃ s : Nat, r8V m 3 256 = (s : Int) := ⟨_, (Int.toNat_of_nonneg hs0.1).symm⟩
  have hx0 := r8V_bd m 4 256 (by decide)
  obtain ⟨x0, hx⟩ : ∃ s : Nat, r8V m 4 256 = (s : Int) := ⟨_, (Int.toNat_of_nonneg hx0.1).symm⟩
  have hy0 := r8V_bd m 5 256 (by decide)
  obtain ⟨y0, hy⟩ : ∃ s : Nat, r8V m 5 256 = (s : Int) := ⟨_, (Int.toNat_of_nonneg hy0.1).symm⟩
  have hz0 := r8V_bd m 6 16 (by decide)
  obtain ⟨z0, hz⟩ : ∃ s : Nat, 1 + r8V m 6 16 = (s : Int) := ⟨(1 + r8V m 6 16).toNat, by omega⟩
  rw [hs] at hs0
  rw [hx] at hx0
  rw [hy] at hy0
  have hz1 : 1 ≤ z0 ∧ z0 ≤ 16 := by omega
  have hxn : x0 * 257 < 65536 := by omega
  have hyn : y0 * 257 < 65536 := by omega
  have hsn : s0 * 65537 < 4294967296 := by omega
  have hxyn : x0 * 257 ^^^ y0 * 257 < 65536 := Nat.xor_lt_two_pow (n := 16) hxn hyn
  have hxy := xorI_nat _ _ hxn hyn
  unfold xorI at hxy
  have hkb1 := keyN_lt (x0 * 257) (s0 * 65537) (Nat.le_refl z0)
  have hkb2 := keyN_lt (y0 * 257) (s0 * 65537) (Nat.le_refl z0)
  have hz16 := pow16N hz1.2
  have hkx := key_xor (x0 * 257) (y0 * 257) (s0 * 65537) z0
  have hxk := xorI_nat (keyN (x0 * 257) (s0 * 65537) z0) (keyN (y0 * 257) (s0 * 65537) z0) (by omega) (by omega)
  rw [← hkx] at hxk
  unfold xorI at hxk
  have hka := fun W : World => impl_KeyOfBits_c W (x0 * 257) z0 (s0 * 65537) hxn hz1.1 hz1.2 hsn
  have hkb := fun W : World => impl_KeyOfBits_c W (y0 * 257) z0 (s0 * 65537) hyn hz1.1 hz1.2 hsn
  have hkc := fun W : World => impl_KeyOfBits_c W (x0 * 257 ^^^ y0 * 257) z0 (s0 * 65537) hxyn hz1.1 hz1.2 hsn
  obtain ⟨XY, hXY⟩ : ∃ XY, x0 * 257 ^^^ y0 * 257 = XY := ⟨_, rfl⟩
  rw [hXY] at hxy hkc hxk
  obtain ⟨K1, hK1⟩ : ∃ K, keyN (x0 * 257) (s0 * 65537) z0 = K := ⟨_, rfl⟩
  obtain ⟨K2, hK2⟩ : ∃ K, keyN (y0 * 257) (s0 * 65537) z0 = K := ⟨_, rfl⟩
  obtain ⟨K3, hK3⟩ : ∃ K, keyN XY (s0 * 65537) z0 = K := ⟨_, rfl⟩
  rw [hK1] at hka hxk hkb1
  rw [hK2] at hkb hxk
  rw [hK3] at hkc hxk
  obtain ⟨PZ, hPZ⟩ : ∃ P : Nat, 2 ^ z0 = P := ⟨_, rfl⟩
  rw [hPZ] at hkb1
  have hpz : wrap64 (2 ^ z0) = (PZ : Int) := by rw [(wrap16 hz1.2).2.1, ← hPZ]; push_cast; rfl
  have hcz : IntKind.u64.wrap (z0 : Int) = (z0 : Int) := IntWalk.u64_in _ (by omega)
  have hk1p : (K1 : Int) < (PZ : Int) := Int.ofNat_lt.2 hkb1
  have hc1 : ((x0 * 257 : Nat) : Int) = (x0 : Int) * 257 := by rw [Int.natCast_mul]; rfl
  have hc2 : ((y0 * 257 : Nat) : Int) = (y0 : Int) * 257 := by rw [Int.natCast_mul]; rfl
  have hc3 : ((s0 * 65537 : Nat) : Int) = (s0 : Int) * 65537 := by rw [Int.natCast_mul]; rfl
  rw [hc1, hc2] at hxy
  rw [hc1, hc3] at hka
  rw [hc2, hc3] at hkb
  rw [hc3] at hkc
  have HS0 := Lib.hid hs
  have HX0 := Lib.hid hx
  have HY0 := Lib.hid hy
  have HZ0 := Lib.hid hz
  have HKA := Lib.hid hka
  have HKB := Lib.hid hkb
  have HKC := Lib.hid hkc
  have HXY := Lib.hid hxy
  have HKX := Lib.hid hxk
  have HK1 := Lib.hid hk1p
  have HPZ := Lib.hid hpz
  have HCZ := Lib.hid hcz
  clear hs hx hy hz hz0 hxyn hxy hkb1 hkb2 hz16 hkx hxk hka hkb hkc hXY hK1 hK2 hK3 hPZ hpz hcz hk1p hc1 hc2 hc3
  obtain ⟨A9, k9, rfl, hp9⟩ := ho9.opn
  obtain ⟨n9, hn9x⟩ : ∃ n9, xs.length = n9 := ⟨_, rfl⟩
  rw [hn9x] at hp9 hn4 ⊢
  have hM16 : M < 16 := by omega
  have hM1 : 1 ≤ M := by omega
  have hve := ext_valid hv hM16
  have hevw := fun (i : Nat) (h1 : i ≤ M + 1) (h2 : i % 2 = 1) => ext_weights hv hM16 h1 h2
  have hsh := fun (x : Int) (hx : x ∈ shortL M xs) => short_is hv hM16 hx
  have hcut : cutL M (echL (M + 1) (extL M xs)) = shortL M xs := by
    unfold cutL shortL
    rw [hasD_row (M := M + 1) (by omega) (du_of hve).em 0 M]
  have hs8 : (shortL M xs).length ≤ 8 := by
    have e : (echL (M + 1) (extL M xs)).length = n9 := by rw [echL_len, extL_len]; exact hn9x
    unfold shortL
    split
    · rw [List.length_drop]; omega
    · omega
  have hC9 := code_new (M := (M : Int)) (n := n9) (cap := k9) (sl_of_own hp9)
  have bD9 : Below w9.heap.size w9 (w9.alloc (.cells #[.int .i64 (M : Int), .slice A9 n9 k9] 27)) := (Below.refl _ _).alloc (Nat.le_refl _) _
  obtain ⟨P9, hP9⟩ : ∃ P, w9.heap.size = P := ⟨_, rfl⟩
  obtain ⟨D9, e9⟩ : ∃ q : World, q = w9.alloc (.cells #[.int .i64 (M : Int), .slice A9 n9 k9] 27) := ⟨_, rfl⟩
  rw [← e9] at hC9 bD9
  have B9 := (B8.trans (b9.mono B8.size)).trans (bD9.mono (Nat.le_trans B8.size b9.size))
  rw [hP9] at hC9
  have HC9 := Lib.hid hC9
  have HV := Lib.hid hv
  have HN9 := Lib.hid hn9x
  have HVE := Lib.hid hve
  obtain ⟨C0, C1⟩ := hC9.cells
  have hlx := extL_len M xs
  rw [hn9x] at hlx
  have HXT := Lib.hid (impl_ExtendParity_c D9 M hM16 A9 n9 k9 xs hn9x hC9.sl hv)
  obtain ⟨ex, hex⟩ : ∃ ex, extL M xs = ex := ⟨_, rfl⟩
  rw [hex] at hve hevw hcut hlx HXT HVE
  have HLX := Lib.hid hlx
  have HEV := Lib.hid hevw
  have HSH := Lib.hid hsh
  have HCUT := Lib.hid hcut
  have HS8 := Lib.hid hs8
  clear hs8 hC9 bD9 hv hn9x hve hevw hsh hcut hlx hex ho9 hp9 b9
  go_wp2_with (rw [← e9]; clear e9)
  refine HXT.out.mono ?_
  rintro e w10 ⟨v10, rfl, ho10, b10⟩
  obtain ⟨A10, k10, rfl, hp10⟩ := ho10.opn
  rw [HLX.out] at hp10 ⊢
  have hC10 := code_new (M := (M : Int) + 1) (n := n9) (cap := k10) (sl_of_own hp10)
  have bD10 : Below w10.heap.size w10 (w10.alloc (.cells #[.int .i64 ((M : Int) + 1), .slice A10 n9 k10] 27)) := (Below.refl _ _).alloc (Nat.le_refl _) _
  obtain ⟨D10, e10⟩ : ∃ q : World, q = w10.alloc (.cells #[.int .i64 ((M : Int) + 1), .slice A10 n9 k10] 27) := ⟨_, rfl⟩
  rw [← e10] at hC10 bD10
  have b10n := b10.trans (bD10.mono b10.size)
  have B10 := B9.trans (b10n.mono B9.size)
  have HC10 := Lib.hid hC10
  have HC9a := Lib.hid (HC9.out.next b10n)
  clear C0 C1
  obtain ⟨C0, C1⟩ := hC10.cells
  have hwv : weightsV ((M : Int) + 1) ex = wtRow (M + 1) (codeL ex) := by
    have h := HVE.out
    push_cast at h
    unfold weightsV
    rw [if_pos h]
    rfl
  have hve2 := HVE.out
  push_cast at hve2
  have HVE2 := Lib.hid hve2
  have HWV := Lib.hid hwv
  clear hC10 bD10 ho10 hp10 b10 b10n hwv hve2
  go_wp2_with (rw [← e10]; clear e10)
  refine (impl_WeightsOf_c D10 ((M : Int) + 1) A10 n9 k10 ex HLX.out (by omega) HC10.out.sl).mono ?_
  rintro e w11 ⟨v11, rfl, ho11, b11⟩
  rw [HWV.out] at ho11
  rw [HVE2.out]
  obtain ⟨A11, k11, rfl, hp11⟩ := ho11.opn
  obtain ⟨WS, hWS⟩ : ∃ WS, wtRow (M + 1) (codeL ex) = WS := ⟨_, rfl⟩
  have hwl : WS.length = M + 1 + 1 := by rw [← hWS]; exact wtRow_len _ _
  rw [hWS] at hp11 HEV
  rw [hwl] at hp11
  rw [hWS, hwl]
  have HWL := Lib.hid hwl
  have HP11 := Lib.hid hp11
  have HC11 := Lib.hid (HC10.out.next b11)
  have HC9b := Lib.hid (HC9a.out.next b11)
  have B11 := B10.trans (b11.mono B10.size)
  clear C0 C1 ho11 hp11 hWS hwl b11
  obtain ⟨C0, C1⟩ := HC11.out.cells
  have HST := Lib.hid (impl_ShortenParity_c w11 M hM16 hM1 A10 n9 k10 ex HLX.out HC11.out.sl HVE.out)
  rw [HCUT.out] at HST
  obtain ⟨SR, hSR⟩ : ∃ SR, shortL M xs = SR := ⟨_, rfl⟩
  rw [hSR] at HST HSH HS8
  obtain ⟨bb, hbb⟩ : ∃ bb, validParB (M : Int) SR = bb := ⟨_, rfl⟩
  rw [hbb] at HST
  clear hSR hbb
  go_wp2_with fail
  refine HST.out.mono ?_
  rintro e w12 ⟨S, N, ks, hN, rfl, hsl, b12⟩
  have HC12 := Lib.hid (HC11.out.next b12)
  have HC9c := Lib.hid (HC9b.out.next b12)
  have HP12 := Lib.hid (own_below HP11.out b12 (Nat.le_refl _))
  have B12 := B11.trans (b12.mono B11.size)
  clear C0 C1 b12
  cases bb
  · simp only [asP]
    have b13 : Below w12.heap.size w12 (w12.alloc (.cells #[.int .i64 0, .slice none 0 0] 27)) := (Below.refl _ _).alloc (Nat.le_refl _) _
    have hC13 := HC12.out.next b13
    have hC9d := HC9c.out.next b13
    obtain ⟨C0, C1⟩ := hC13.cells
    obtain ⟨E0, E1⟩ := hC9d.cells
    have B13 := B12.trans (b13.mono B12.size)
    have hp13 := own_below HP12.out b13 (Nat.le_refl _)
    obtain ⟨g, k2, hv2, -, -⟩ := hp13.form (by omega)
    cases hv2
    have hrc := fun (j : Nat) (hj : j < M + 1 + 1) => row_cell hp13 hj
    have HRC := Lib.hid hrc
    have HB13 := Lib.hid B13
    clear hC13 hC9d hp13 b13 B13 hrc hsl hN
    go_wp2_with fail
    obtain ⟨w13, e13⟩ : ∃ q : World, q = w12.alloc (.cells #[.int .i64 0, .slice none 0 0] 27) := ⟨_, rfl⟩
    rw [← e13] at HRC HB13
    rw [← e13]
    clear C0 C1 E0 E1 e13
    go_loop [31] (fun i => ∃ j : Nat, j ≤ M + 3 ∧ j % 2 = 1 ∧ i = .int .i64 j) (fun i => M + 4 - (intOf i).toNat)
    case atStart => exact ⟨1, by omega, rfl, rfl⟩
    case round =>
      obtain ⟨j, hj, hj2, rfl⟩ := hrel
      by_cases hlt : j < M + 1 + 1
      · have hc := HRC.out j hlt
        rw [HEV.out j (by omega) hj2] at hc
        go_wp2
        go_round
        case rel => exact ⟨j + 2, by omega, by omega, by go_num⟩
        case measure => simp [intOf]; omega
      · go_wp2_with fail
        refine (HAT.out w13 HB13.out 3 256 (by decide) (by decide) (by decide)).mono ?_
        rintro e w' ⟨rfl, rfl⟩
        rw [HS0.out]
        go_wp2_with fail
        refine (HAT.out w13 HB13.out 4 256 (by decide) (by decide) (by decide)).mono ?_
        rintro e w' ⟨rfl, rfl⟩
        rw [HX0.out]
        go_wp2_with fail
        refine (HAT.out w13 HB13.out 5 256 (by decide) (by decide) (by decide)).mono ?_
        rintro e w' ⟨rfl, rfl⟩
        rw [HY0.out]
        go_wp2_with fail
        refine (HAT.out w13 HB13.out 6 16 (by decide) (by decide) (by decide)).mono ?_
        rintro e w' ⟨rfl, rfl⟩
        have htz := r8V_bd m 6 16 (by decide)
        go_wp2_with fail
        rw [HZ0.out]
        clear htz
        refine (HKA.out w13).mono ?_
        rintro e w' ⟨rfl, rfl⟩
        go_wp2_with fail
        refine (HKB.out w13).mono ?_
        rintro e w' ⟨rfl, rfl⟩
        have hxy := HXY.out
        go_wp2_with fail
        refine (HKC.out w13).mono ?_
        rintro e w' ⟨rfl, rfl⟩
        have hkx := HKX.out
        have hk1 := HK1.out
        have hk0 : (0 : Int) ≤ (K1 : Int) := by omega
        have hpz := HPZ.out
        have hcz := HCZ.out
        go_wp2
        go_ret
        exact ⟨rfl, HB13.out⟩
  · simp only [asP]
    have hC13 := code_new (M := (M : Int)) (n := N) (cap := ks) hsl
    have b13 : Below w12.heap.size w12 (w12.alloc (.cells #[.int .i64 (M : Int), .slice S N ks] 27)) := (Below.refl _ _).alloc (Nat.le_refl _) _
    obtain ⟨D13, e13⟩ : ∃ q : World, q = w12.alloc (.cells #[.int .i64 (M : Int), .slice S N ks] 27) := ⟨_, rfl⟩
    rw [← e13] at hC13 b13
    have HC13 := Lib.hid hC13
    have HC12a := Lib.hid (HC12.out.next b13)
    have HC9d := Lib.hid (HC9c.out.next b13)
    obtain ⟨C0, C1⟩ := HC12a.out.cells
    obtain ⟨E0, E1⟩ := HC9d.out.cells
    have hp13 := own_below HP12.out b13 (Nat.le_refl _)
    obtain ⟨g, k2, hv2, -, -⟩ := hp13.form (by omega)
    cases hv2
    have hrc := fun (j : Nat) (hj : j < M + 1 + 1) => row_cell hp13 hj
    have HRC := Lib.hid hrc
    have HB13 := Lib.hid (B12.trans (b13.mono B12.size))
    have HNL := Lib.hid hN
    have hN8 : N ≤ 8 := by rw [← hN]; exact HS8.out
    clear hC13 hp13 b13 hrc hsl hN
    go_wp2_with (rw [← e13]; clear e13)
    clear C0 C1 E0 E1
    go_loop [31] (fun i => ∃ j : Nat, j ≤ M + 3 ∧ j % 2 = 1 ∧ i = .int .i64 j) (fun i => M + 4 - (intOf i).toNat)
    case atStart => exact ⟨1, by omega, rfl, rfl⟩
    case round =>
      obtain ⟨j, hj, hj2, rfl⟩ := hrel
      by_cases hlt : j < M + 1 + 1
      · have hc := HRC.out j hlt
        rw [HEV.out j (by omega) hj2] at hc
        go_wp2
        go_round
        case rel => exact ⟨j + 2, by omega, by omega, by go_num⟩
        case measure => simp [intOf]; omega
      · go_wp2
        go_loopw [32] (fun i wr => ∃ p : Nat, p ≤ N ∧ i = .int .i64 p ∧ Below D13.heap.size D13 wr) (fun i _ => N - (intOf i).toNat)
        case atStart => exact ⟨0, Nat.zero_le _, rfl, Below.refl _ _⟩
        case round =>
          obtain ⟨p, hp, rfl, hb⟩ := hrel
          have HC13r := Lib.hid (HC13.out.next hb)
          have HC9r := Lib.hid (HC9d.out.next hb)
          obtain ⟨S0, S1⟩ := HC13r.out.cells
          by_cases hltp : p < N
          · obtain ⟨b2, o2, hS, hb2z, hcs⟩ := sl_cells HC13r.out.sl (by rw [HNL.out]; omega)
            have hpx : p < SR.length := by rw [HNL.out]; exact hltp
            have hcx := hcs p hpx
            have hmem : SR.getD p 0 ∈ SR := by
              rw [show SR.getD p 0 = SR[p] by simp [List.getD, hpx]]
              exact List.getElem_mem hpx
            obtain ⟨y, hy, hyM, hsp, hodd⟩ := HSH.out _ hmem
            rw [hy] at hcx
            have hyp : (0 : Int) ≤ y ∧ (y : Int) < 2 ^ M := ⟨by omega, by exact_mod_cast hyM⟩
            have hdu := du_of HV.out
            have hex := (sp_enc hdu.m hdu.rm hdu.n8 y).1 hsp
            rw [HN9.out] at hex
            have hwy := odd_wt (x := y)
            rw [hodd] at hwy
            simp only [Bool.false_eq_true, if_false] at hwy
            have hy16 : (y : Int) < 65536 := Int.lt_of_lt_of_le hyp.2 (pow16 (Nat.le_of_lt hM16)).2
            have hw0 := (wt_bd (m := 16) (Nat.le_refl _) hyp.1 hy16).1
            have hwt : (wt (y : Int)).tmod 2 = 0 := by rw [Int.tmod_eq_emod_of_nonneg hw0]; exact hwy
            have HIC := Lib.hid (impl_InCode_c wr.drew M A9 n9 k9 xs HN9.out (by omega) (HC9r.out.drewN 1).sl (y : Int) (can_yes HV.out hyp.1 hyp.2) hex)
            obtain ⟨E0, E1⟩ := HC9r.out.cells
            have HON := Lib.hid (fun W : World => r8Ones_c W (y : Int) hyp.1 hy16)
            have hbz := hb.size
            have HLP := Lib.hid hltp
            subst hS
            clear hcs hmem hy hyM hsp hodd hyp hdu hex hy16
            go_wp2_with fail
            go_region_held3 (fun w' => (w'.cell? ⟨P9, 0, none⟩ = some (.int .i64 (M : Int)) ∧ w'.cell? ⟨P9, 1, none⟩ = some (.slice A9 n9 k9)) ∧ w'.cell? ⟨w12.heap.size, 1, none⟩ = some (.slice (some ⟨b2, o2, none⟩) N ks) ∧ w'.cell? ⟨b2, o2 + p, none⟩ = some (.int .i64 (y : Int)))
              (first | exact ⟨⟨E0, E1⟩, S1, hcx⟩ | exact ⟨HC9n.out.cells, HC13n.out.cells.2, hcx2⟩)
              (first
                | (go_at_call 12; refine HIC.out.mono ?_; rintro e w14 ⟨rfl, b14⟩; have b14 := below_undrew b14; have HC9n := Lib.hid (HC9r.out.next b14); have HC13n := Lib.hid (HC13r.out.next b14); have hcx2 : w14.cell? ⟨b2, o2 + p, none⟩ = some (.int .i64 (y : Int)) := (b14.cell (p := ⟨b2, o2 + p, none⟩) (by simp only []; omega)).trans hcx))
            all_goals
              have hb14 := hb.trans (b14.mono hbz)
              obtain ⟨S0, S1⟩ := HC13n.out.cells
              clear b14
              go_wp2_with (go_at_call 17; refine (HON.out _).mono ?_; rintro e w' ⟨rfl, rfl⟩)
              go_roundw
              case rel => exact ⟨p + 1, by have := HLP.out; omega, by go_num, hb14⟩
              case measure => have := HLP.out; simp [intOf]; omega
          · have B14 := HB13.out.trans (hb.mono HB13.out.size)
            go_wp2_with fail
            refine (HAT.out wr B14 3 256 (by decide) (by decide) (by decide)).mono ?_
            rintro e w' ⟨rfl, rfl⟩
            rw [HS0.out]
            go_wp2_with fail
            refine (HAT.out wr B14 4 256 (by decide) (by decide) (by decide)).mono ?_
            rintro e w' ⟨rfl, rfl⟩
            rw [HX0.out]
            go_wp2_with fail
            refine (HAT.out wr B14 5 256 (by decide) (by decide) (by decide)).mono ?_
            rintro e w' ⟨rfl, rfl⟩
            rw [HY0.out]
            go_wp2_with fail
            refine (HAT.out wr B14 6 16 (by decide) (by decide) (by decide)).mono ?_
            rintro e w' ⟨rfl, rfl⟩
            have htz := r8V_bd m 6 16 (by decide)
            go_wp2_with fail
            rw [HZ0.out]
            clear htz
            refine (HKA.out wr).mono ?_
            rintro e w' ⟨rfl, rfl⟩
            go_wp2_with fail
            refine (HKB.out wr).mono ?_
            rintro e w' ⟨rfl, rfl⟩
            have hxy := HXY.out
            go_wp2_with fail
            refine (HKC.out wr).mono ?_
            rintro e w' ⟨rfl, rfl⟩
            have hkx := HKX.out
            have hk1 := HK1.out
            have hk0 : (0 : Int) ≤ (K1 : Int) := by omega
            have hpz := HPZ.out
            have hcz := HCZ.out
            go_wp2
            go_ret
            exact ⟨rfl, B14⟩

end Go.Proofs.Ytldnhflgpbcmeaa
