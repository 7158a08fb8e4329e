/-
  Contracts: words mended, one and several, and how far words are, of the program.
  Conditions: valid codes whose other code is valid; words in them.
-/
import Derived.Test.YtldnhflgpbcmeaaEK
import Derived.Deep.RegionWith
import Derived.OwnWalk
namespace Go.Proofs.Ytldnhflgpbcmeaa
open Go.RowKit

theorem lead_bd {M : Nat} (hM : M ≤ 16) {D : List Int} {x : Int} (h0 : 0 ≤ x) (h1 : x < 2 ^ M) : 0 ≤ leadV M D x ∧ leadV M D x < 65536 := by
  obtain ⟨n, rfl⟩ : ∃ n : Nat, x = n := ⟨x.toNat, by omega⟩
  have hn : n < 2 ^ M := by exact_mod_cast h1
  obtain ⟨l, h2, h3, _⟩ := lead_of (D := D) hn
  have := pow16N hM
  omega


set_option maxRecDepth 100000 in
set_option maxHeartbeats 1000000 in
theorem impl_MendWord_c (w : World) (M : Nat) (A : Option Addr) (n cap : Nat) (xs : List Int) (h : Dv M n xs) (hx : Sl w w.heap.size A (xs.map (Value.int .i64))) (x : Int) (h0 : 0 ≤ x) (h1 : x < 2 ^ M) :
    Calls Try.prog 27 #[.agg #[.int .i64 (M : Int), .slice A n cap], .int .i64 x] w fun e w' => e = .returned (.tuple #[.int .i64 (xorI x (leadV M (dualL M xs) x)), .int .i64 (wt (leadV M (dualL M xs) x)), .bool true]) ∧ Below w.heap.size w w' := by
  have hp16 := pow16 h.m
  have h8n := h.n8
  have hlb := lead_bd h.m (D := dualL M xs) h0 h1
  obtain ⟨w1, e1⟩ : ∃ q : World, q = w.alloc (.cells #[.int .i64 (M : Int), .slice A n cap] 27) := ⟨_, rfl⟩
  have b1 : Below w.heap.size w w1 := by rw [e1]; exact (Below.refl _ _).alloc (Nat.le_refl _) _
  have z1 : w1.heap.size = w.heap.size + 1 := by rw [e1]; simp
  have hq : Obj w1 w.heap.size 27 #[.int .i64 (M : Int), .slice A n cap] := by rw [e1]; exact Obj.new _ _ _
  have hx1 := (hx.below b1).more b1.size
  obtain ⟨⟨c0, c1⟩, -⟩ := hq.two
  have HD := Lib.hid (impl_DualOf_c w1 M A n cap xs h.l hx1 h.v)
  rw [h.d] at HD
  simp only [asP] at HD
  have hcan := can_yes h.v h0 h1
  have HH := Lib.hid (fun W hW => impl_has_c W (M : Int) A n cap xs h.l (by omega) hW x)
  rw [hcan] at HH
  obtain ⟨D, hD⟩ : ∃ D, dualL M xs = D := ⟨_, rfl⟩
  have h8 := h.d8
  have hrm := h.rm
  have hm := h.m
  rw [hD] at HD h8 hrm hlb ⊢
  obtain ⟨dn, hdn⟩ : ∃ dn, D.length = dn := ⟨_, rfl⟩
  rw [hdn] at HD h8
  have HS := Lib.hid (fun W B S k hS => impl_syndrome_c W B S dn k D hdn h8 hrm hS x h0 (by omega))
  have HL := Lib.hid (fun W S k hS => impl_leaders_c W M hm S dn k D hdn h8 hrm hS)
  have hsb : synL D x < 2 ^ dn := by rw [← hdn]; exact syn_lt _ _ _
  have hll : (leadK D (2 ^ M)).length = 2 ^ dn := by rw [leadK_len, hdn]
  obtain ⟨l, hl⟩ : ∃ l, leadV M D x = l := ⟨_, rfl⟩
  have hl2 : (leadK D (2 ^ M)).getD (synL D x) 0 = l := hl
  rw [hl] at hlb ⊢
  obtain ⟨L, hL⟩ : ∃ L, leadK D (2 ^ M) = L := ⟨_, rfl⟩
  rw [hL] at HL hll hl2
  obtain ⟨s, hs⟩ : ∃ s, synL D x = s := ⟨_, rfl⟩
  rw [hs] at hsb hl2 HS
  obtain ⟨N, hN⟩ : ∃ N, 2 ^ dn = N := ⟨_, rfl⟩
  rw [hN] at hsb hll
  have HX := Lib.hid hx1
  have HQ := Lib.hid hq
  have HLL := Lib.hid hll
  have HL2 := Lib.hid hl2
  have i1 : (0 : Int) ≤ (s : Int) := by omega
  have i2 : (s : Int) < (N : Int) := by omega
  clear hx hx1 hq h hD hdn hrm hcan hl hL hs hN hll hl2
  go_enter Try.func27, Try.ntmps27
  go_wp2_with (rw [← e1]; clear e1)
  clear c0 c1
  refine HD.out.mono ?_
  rintro e w2 ⟨S, k, rfl, hp, b2⟩
  obtain ⟨w3, e3⟩ : ∃ q : World, q = w2.alloc (.cells #[.int .i64 (M : Int), .slice S dn k] 27) := ⟨_, rfl⟩
  have b3 : Below w2.heap.size w2 w3 := by rw [e3]; exact (Below.refl _ _).alloc (Nat.le_refl _) _
  have hq3 : Obj w3 w2.heap.size 27 #[.int .i64 (M : Int), .slice S dn k] := by rw [e3]; exact Obj.new _ _ _
  have z2 := b2.size
  have z3 : w3.heap.size = w2.heap.size + 1 := by rw [e3]; simp
  have B13 := b2.trans (b3.mono b2.size)
  have hq := HQ.out.below B13 (by omega)
  have hx3 := (HX.out.below B13).more B13.size
  have hp3 := own_below hp b3 (Nat.le_refl _)
  obtain ⟨⟨c0, c1⟩, -⟩ := hq.two
  have HX3 := Lib.hid hx3
  have HQ3 := Lib.hid hq3
  have HP := Lib.hid hp3
  clear hp hq hq3 HD hp3 hx3 b2 b3
  go_wp2_with (rw [← e3]; clear e3)
  clear c0 c1
  refine (HH.out w3 HX3.out).mono ?_
  rintro e w4 ⟨rfl, b4⟩
  have z4 := b4.size
  have hq4 := HQ3.out.below b4 (by omega)
  obtain ⟨⟨c0, c1⟩, -⟩ := hq4.two
  have hp4 := own_below HP.out b4 (Nat.le_refl _)
  have HP4 := Lib.hid hp4
  have B14 := b1.trans ((B13.trans (b4.mono B13.size)).mono b1.size)
  obtain ⟨q2, hq2⟩ : ∃ q2, w2.heap.size = q2 := ⟨_, rfl⟩
  rw [hq2] at c0 c1
  have hq2z : q2 < w4.heap.size := by omega
  clear HP hq4 hp4 HH
  go_wp2_with fail
  have hp5g := fun (W : World) (hW : Below w4.heap.size w4 W) => sl_of_own (own_below HP4.out hW (Nat.le_refl _))
  have HPG := Lib.hid hp5g
  clear hp5g
  go_region_with (first
    | (go_at_call 49; refine (HL.out w4.drew S k (sl_of_own HP4.out)).mono ?_; rintro e w5 ⟨v, rfl, ho, b5⟩; have b5 := below_undrew b5; have z5 := b5.size; obtain ⟨R, k2, rfl, hp5⟩ := ho.opn; rw [HLL.out] at hp5; rw [HLL.out]; obtain ⟨g, k2, hv2, hbg, hgs⟩ := hp5.form (by omega); cases hv2; have cs := row_cell hp5 hsb; rw [HL2.out] at cs; have f0 := (b5.cell (p := ⟨q2, 0, none⟩) (by simp only []; omega)).trans c0; have f1 := (b5.cell (p := ⟨q2, 1, none⟩) (by simp only []; omega)).trans c1; clear ho hp5)
    | (go_at_call 48; refine (HS.out w5 w5.heap.size S k (HPG.out w5 b5)).mono ?_; rintro e w6 ⟨rfl, rfl⟩)
    | (go_at_call 48; refine (HS.out w4.drew w4.heap.size S k (sl_of_own HP4.out)).mono ?_; rintro e w6 ⟨rfl, rfl⟩))
  all_goals
    clear cs f0 f1
    go_wp2_with (go_at_call 31; refine (impl_weightOf_w _ _ hlb.1 hlb.2).mono ?_; rintro e w' ⟨rfl, rfl⟩)
    go_ret3
    exact ⟨rfl, B14.trans (b5.mono B14.size)⟩


theorem word16 (w : World) (x : Int) (h0 : 0 ≤ x) (h1 : x < 65536) : Calls Try.prog 36 #[.int .i64 x, .int .i64 16] w fun e w' => e = .returned (.bool true) ∧ w = w' := by
  have a1 : inB x 0 (2 ^ 16 - 1) = true := by rw [inB_true]; omega
  have A1 := impl_isWordOf_c w x 16 (by decide)
  rw [a1] at A1
  exact A1
set_option maxRecDepth 100000 in
theorem impl_FarOfBits_c (w : World) (x y : Int) (hx0 : 0 ≤ x) (hx1 : x < 65536) (hy0 : 0 ≤ y) (hy1 : y < 65536) :
    Calls Try.prog 29 #[.int .i64 x, .int .i64 y] w fun e w' => e = .returned (.tuple #[.int .i64 (wt (xorI x y)), .bool true]) ∧ w = w' := by
  have hb := xorI_bd (m := 16) (Nat.le_refl _) hx0 (by omega) hy0 (by omega)
  have HW := Lib.hid (impl_weightOf_w w (xorI x y) hb.1 (by omega))
  clear hb
  go_enter Try.func29, Try.ntmps29
  go_wp2_with fail
  refine (word16 w x hx0 hx1).mono ?_
  rintro e w' ⟨rfl, rfl⟩
  go_wp2_with fail
  refine (word16 w y hy0 hy1).mono ?_
  rintro e w' ⟨rfl, rfl⟩
  go_wp2_with fail
  refine HW.out.mono ?_
  rintro e w' ⟨rfl, rfl⟩
  go_wp2
  go_ret2
  exact ⟨rfl, rfl⟩

end Go.Proofs.Ytldnhflgpbcmeaa
