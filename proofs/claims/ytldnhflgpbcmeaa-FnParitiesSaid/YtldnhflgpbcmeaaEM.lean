/-
  Contract: several words mended, of the program.
  Conditions: valid codes whose other code is valid; at most 64 words in them.
-/
import Derived.Test.YtldnhflgpbcmeaaEL
namespace Go.Proofs.Ytldnhflgpbcmeaa
open Go.RowKit

def mendL (M : Nat) (D ws : List Int) : List Int := ws.map fun x => xorI x (leadV M D x)
set_option maxRecDepth 100000 in
set_option maxHeartbeats 2000000 in
theorem impl_MendsShared_c (w : World) (M : Nat) (A : Option Addr) (n cap : Nat) (xs : List Int) (h : Dv M n xs) (hx : Sl w w.heap.size A (xs.map (Value.int .i64))) (A2 : Option Addr) (n2 cap2 : Nat) (ws : List Int) (hl2 : ws.length = n2) (hn2 : n2 ≤ 64) (hb2 : ∀ x ∈ ws, 0 ≤ x ∧ x < 2 ^ M) (hx2 : Sl w w.heap.size A2 (ws.map (Value.int .i64))) (wk : Int) (hw1 : 1 ≤ wk) (hw8 : wk ≤ 8) :
    Calls Try.prog 28 #[.agg #[.int .i64 (M : Int), .slice A n cap], .slice A2 n2 cap2, .int .i64 wk] w fun e w' => ∃ v, e = .returned (.tuple #[v, .bool true]) ∧ Ow w' w.heap.size 2 v ((mendL M (dualL M xs) ws).map (Value.int .i64)) ∧ Below w.heap.size w w' := by
  have hp16 := pow16 h.m
  obtain ⟨w1, e1⟩ : ∃ q : World, q = w.alloc (.cells #[.int .i64 (M : Int), .slice A n cap] 27) := ⟨_, rfl⟩
  have b1 : Below w.heap.size w w1 := by rw [e1]; exact (Below.refl _ _).alloc (Nat.le_refl _) _
  have z1 : w1.heap.size = w.heap.size + 1 := by rw [e1]; simp
  have hq : Obj w1 w.heap.size 27 #[.int .i64 (M : Int), .slice A n cap] := by rw [e1]; exact Obj.new _ _ _
  have hx1 := (hx.below b1).more b1.size
  have hy1 := (hx2.below b1).more b1.size
  obtain ⟨⟨c0, c1⟩, -⟩ := hq.two
  have HD := Lib.hid (impl_DualOf_c w1 M A n cap xs h.l hx1 h.v)
  rw [h.d] at HD
  simp only [asP] at HD
  obtain ⟨D, hD⟩ : ∃ D, dualL M xs = D := ⟨_, rfl⟩
  have h8 := h.d8
  have hrm := h.rm
  have hm := h.m
  rw [hD] at HD h8 hrm ⊢
  obtain ⟨dn, hdn⟩ : ∃ dn, D.length = dn := ⟨_, rfl⟩
  rw [hdn] at HD h8
  have HS := Lib.hid (fun W B S k x hS h0 h1 => impl_syndrome_c W B S dn k D hdn h8 hrm hS x h0 h1)
  have HL := Lib.hid (fun W S k hS => impl_leaders_c W M hm S dn k D hdn h8 hrm hS)
  have hll : (leadK D (2 ^ M)).length = 2 ^ dn := by rw [leadK_len, hdn]
  have hsb : ∀ x, synL D x < 2 ^ dn := fun x => by rw [← hdn]; exact syn_lt _ _ _
  obtain ⟨N, hN⟩ : ∃ N, 2 ^ dn = N := ⟨_, rfl⟩
  rw [hN] at hll hsb
  have hN1 : 1 ≤ N := by rw [← hN]; exact Nat.pow_pos (by decide)
  have hN2 : N ≤ 256 := by rw [← hN]; exact (pow8 h8).2
  have hsh := (wrap16 (M := M) hm).2.2.2
  have hal : (ws.all fun x => inB x 0 (2 ^ M - 1)) = true := by
    rw [List.all_eq_true]
    intro x hx
    have h3 := hb2 x hx
    rw [inB_true]
    exact ⟨h3.1, Int.le_sub_one_of_lt h3.2⟩
  have HAW := Lib.hid (fun (W : World) (B : Nat) hS => impl_areWithin_c W B A2 n2 cap2 ws hl2 (by omega) hS 0 (2 ^ M - 1))
  rw [hal] at HAW
  have hin : inB wk 1 8 = true := by rw [inB_true]; omega
  have HIN := Lib.hid hin
  have HSH := Lib.hid hsh
  have HX := Lib.hid hx1
  have HY := Lib.hid hy1
  have HQ := Lib.hid hq
  have HLL := Lib.hid hll
  have HSB := Lib.hid hsb
  have HB2 := Lib.hid hb2
  have hn2' : ¬ (n2 : Int) > 64 := by omega
  clear hx hx1 hx2 hy1 hq h hD hdn hrm hll hsb hal hin hsh hb2 hN
  go_enter Try.func28, Try.ntmps28
  go_wp2_with (rw [← e1]; clear e1)
  clear c0 c1
  refine HD.out.mono ?_
  rintro e w2 ⟨S, k, rfl, hp, b2⟩
  obtain ⟨w3, e3⟩ : ∃ q : World, q = w2.alloc (.cells #[.int .i64 (M : Int), .slice S dn k] 27) := ⟨_, rfl⟩
  have b3 : Below w2.heap.size w2 w3 := by rw [e3]; exact (Below.refl _ _).alloc (Nat.le_refl _) _
  have hq3 : Obj w3 w2.heap.size 27 #[.int .i64 (M : Int), .slice S dn k] := by rw [e3]; exact Obj.new _ _ _
  have z2 := b2.size
  have z3 : w3.heap.size = w2.heap.size + 1 := by rw [e3]; simp
  have B13 := b2.trans (b3.mono b2.size)
  have hq := HQ.out.below B13 (by omega)
  have hy3 := (HY.out.below B13).more B13.size
  have hp3 := own_below hp b3 (Nat.le_refl _)
  obtain ⟨⟨c0, c1⟩, -⟩ := hq.two
  have HY3 := Lib.hid hy3
  have HQ3 := Lib.hid hq3
  have HP := Lib.hid hp3
  clear hp hq hq3 HD hp3 hy3 b2 b3
  go_wp2_with (first | (rw [← e3]; clear e3) | (go_at_call 30; refine (impl_within_c _ _ _ _).mono ?_; rintro e w' ⟨rfl, rfl⟩; rw [HIN.out]))
  clear c0 c1
  refine (HAW.out w3 w3.heap.size HY3.out).mono ?_
  rintro e w4 ⟨rfl, q4, e4⟩
  have b4 : Below w3.heap.size w3 w4 := by rw [e4]; exact below_drewN (Below.refl _ _) _
  have z4 : w4.heap.size = w3.heap.size := by rw [e4]; rfl
  clear e4
  have hq4 := HQ3.out.below b4 (by omega)
  obtain ⟨⟨c0, c1⟩, -⟩ := hq4.two
  have hp4 := own_below HP.out b4 (Nat.le_refl _)
  have hy4 := (HY3.out.below b4).more b4.size
  have HP4 := Lib.hid hp4
  have HY4 := Lib.hid hy4
  have HQ4 := Lib.hid hq4
  have B14 := B13.trans (b4.mono B13.size)
  clear hq4 hp4 hy4 HP HY3 HQ3 b4 B13 HAW
  go_wp2_with (go_at_call 30; refine (impl_within_c _ _ _ _).mono ?_; rintro e w' ⟨rfl, rfl⟩; rw [HIN.out])
  clear c0 c1
  refine (HL.out w4 S k (sl_of_own HP4.out)).mono ?_
  rintro e w5 ⟨v, rfl, ho, b5⟩
  obtain ⟨R, k2, rfl, hp5⟩ := ho.opn
  rw [HLL.out] at hp5
  rw [HLL.out]
  obtain ⟨g, k2, hv2, hbg, hgs⟩ := hp5.form hN1
  cases hv2
  have z5 := b5.size
  obtain ⟨w6, e6⟩ : ∃ q : World, q = w5.alloc (.cells #[] 2) := ⟨_, rfl⟩
  have b6 : Below w5.heap.size w5 w6 := by rw [e6]; exact (Below.refl _ _).alloc (Nat.le_refl _) _
  have ho6 := own_empty w5 w5.heap.size 2 (Nat.le_refl _)
  rw [← e6] at ho6
  have B46 := b5.trans (b6.mono b5.size)
  have z6 := b6.size
  have B6 := b1.trans ((B14.trans (B46.mono B14.size)).mono b1.size)
  have HR5 := Lib.hid hp5
  have HB6 := Lib.hid b6
  have HB5 := Lib.hid b5
  clear ho hp5 b5 b6 HL
  go_wp2_with (rw [← e6]; clear e6)
  go_loopw [11, 45] (fun v i wr => ∃ j : Nat, j ≤ n2 ∧ i = .int .i64 j ∧ Ow wr w5.heap.size 2 v ((mendL M D (ws.take j)).map (Value.int .i64)) ∧ Below w5.heap.size w6 wr) (fun _ i _ => n2 - (intOf i).toNat)
  case atStart => exact ⟨0, Nat.zero_le _, rfl, ho6, Below.refl _ _⟩
  case round =>
    clear ho6
    obtain ⟨j, hj, rfl, ho, hb⟩ := hrel
    obtain ⟨wp, rfl⟩ : ∃ wp : World, wp = wr := ⟨_, rfl⟩
    have zr := hb.size
    by_cases hlt : j < n2
    · have B5p : Below w5.heap.size w5 wp := HB6.out.trans hb
      have B4p : Below w4.heap.size w4 wp := HB5.out.trans (B5p.mono z5)
      have hq := HQ4.out.below B4p (by omega)
      obtain ⟨⟨c0, c1⟩, -⟩ := hq.two
      have hd := own_below HP4.out B4p (Nat.le_refl _)
      obtain ⟨b, off, rfl, hbb, hc1⟩ := (HY4.out.below B4p).get j (by omega)
      have hxb := HB2.out _ (List.getElem_mem (show j < ws.length by omega))
      have htk : ws.take (j + 1) = ws.take j ++ [ws[j]'(by omega)] := List.take_succ_eq_append_getElem (by omega)
      obtain ⟨x, hx⟩ : ∃ x, ws[j]'(by omega) = x := ⟨_, rfl⟩
      rw [hx] at hc1 hxb htk
      have hsx := HSB.out x
      have HSY := Lib.hid (HS.out wp wp.heap.size S k x (sl_of_own hd) hxb.1 (by omega))
      have cs := row_cell (own_below HR5.out B5p (Nat.le_refl _)) hsx
      have hlv : (leadK D (2 ^ M)).getD (synL D x) 0 = leadV M D x := rfl
      rw [hlv] at cs
      obtain ⟨l, hl⟩ : ∃ l, leadV M D x = l := ⟨_, rfl⟩
      rw [hl] at cs
      obtain ⟨s, hs⟩ : ∃ s, synL D x = s := ⟨_, rfl⟩
      rw [hs] at cs hsx HSY
      have hst : mendL M D (ws.take (j + 1)) = mendL M D (ws.take j) ++ [xorI x l] := by
        unfold mendL
        rw [htk, List.map_append]
        simp [hl]
      have HST := Lib.hid hst
      have hlen : ((mendL M D (ws.take j)).map (Value.int .i64)).length + 1 ≤ 1099511627776 := by
        rw [List.length_map]
        unfold mendL
        rw [List.length_map, List.length_take]
        omega
      have i1 : (0 : Int) ≤ (s : Int) := by omega
      have i2 : (s : Int) < (N : Int) := by omega
      obtain ⟨y, hy⟩ : ∃ y, xorI x l = y := ⟨_, rfl⟩
      rw [hy] at HST
      have hy2 : bits .xor .i64 x l = y := hy
      have HO := Lib.hid ho
      clear hq hd hxb htk hx hlv hl hs hst hy ho
      go_wp2_with (first
        | (go_at_call 48; refine HSY.out.mono ?_; rintro e w' ⟨rfl, rfl⟩)
        | (at_builtin; refine app1 Try.underlying25 infoInt64 rfl (by decide) rfl _ _ rfl _ _ _ rfl (HO.out.alloc _) _ _ _ rfl (cell_new1 _ _ _) rfl hlen (by simp; omega) ?_; intro v' w7 ho7 hb7))
      go_roundw
      case rel =>
        refine ⟨j + 1, by omega, by go_num, ?_, (hb.alloc (by omega) _).trans hb7⟩
        rw [HST.out, List.map_append]
        exact ho7
      case measure => simp [intOf]; omega
    · obtain rfl : j = n2 := by omega
      go_wp2
      go_ret2
      refine ⟨_, rfl, own_base (by rw [← hl2, List.take_length] at ho; exact ho) (by omega), B6.trans (hb.mono (by omega))⟩

end Go.Proofs.Ytldnhflgpbcmeaa
