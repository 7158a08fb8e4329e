/-
  FnParities returns true for every input, and leaves its arguments as they were.
  Conditions: none beyond the given statement's own.
-/
import Derived.Test.YtldnhflgpbcmeaaWPT
namespace Go.Proofs.Ytldnhflgpbcmeaa
open Go.RowKit

set_option maxRecDepth 100000 in
set_option maxHeartbeats 40000000 in
theorem law_FnParities (w : World) (A1 : Option Addr) (n1 cap1 : Nat) (c : List Int) (A2 : Option Addr) (n2 cap2 : Nat) (m : List Int) (hl1 : c.length = n1) (hm1 : n1 ≤ maxLen) (hb1 : ∀ x ∈ c, 0 ≤ x ∧ x ≤ 255) (hx1 : Sl w w.heap.size A1 (c.map (Value.int .u8)))
    (hl2 : m.length = n2) (hm2 : n2 ≤ maxLen) (hb2 : ∀ x ∈ m, 0 ≤ x ∧ x ≤ 255) (hx2 : Sl w w.heap.size A2 (m.map (Value.int .u8))) :
    Calls Try.prog 4 #[.slice A1 n1 cap1, .slice A2 n2 cap2] w fun e w' => e = .returned (.bool true) ∧ Below w.heap.size w w' := by
  by_cases hlong : 48 < n1 ∨ 48 < n2
  · go_enter Try.func4, Try.ntmps4
    go_wp2_with (go_at_call 5; refine (r8Long_c _ _ _ _ _ _ _ true (by simp; omega) hm1 hm2).mono ?_; rintro e w' ⟨rfl, rfl⟩)
    go_ret
    exact ⟨rfl, Below.refl _ _⟩
  have hn1 : n1 ≤ 48 := by omega
  have hn2 : n2 ≤ 48 := by omega
  have hfl : false = (decide (48 < n1) || decide (48 < n2)) := by rw [decide_eq_false (by omega), decide_eq_false (by omega)]; rfl
  have HFL := Lib.hid (r8Long_c w A1 A2 n1 cap1 n2 cap2 false hfl hm1 hm2)
  have HR8 := Lib.hid (R8Parity_c w A1 n1 cap1 c hl1 (by omega) hb1 hx1)
  have HAT := Lib.hid (fun (W : World) (hb : Below w.heap.size w W) (i q : Int) (g0 : 0 ≤ i) (g1 : i ≤ 1048576) (g3 : q ≤ 1048576) => r8At_c W w.heap.size A2 n2 cap2 m hl2 hb2 (hx2.below hb) i q g0 g1 g3)
  clear hfl hlong hb1 hb2 hx1 hx2
  go_enter Try.func4, Try.ntmps4
  go_wp2_with fail
  refine HFL.out.mono ?_
  rintro e w' ⟨rfl, rfl⟩
  go_wp2_with fail
  refine HR8.out.mono ?_
  rintro e w1 ⟨M, v, xs, rfl, hM2, hM8, ho1, hv, hn4, b1⟩
  obtain ⟨A, cap, rfl, hp1⟩ := ho1.opn
  obtain ⟨n, hn⟩ : ∃ n, xs.length = n := ⟨_, rfl⟩
  rw [hn] at hp1 hn4 ⊢
  obtain ⟨D, e1⟩ : ∃ q : World, q = w1.alloc (.cells #[.int .i64 (M : Int), .slice A n cap] 27) := ⟨_, rfl⟩
  have bD : Below w1.heap.size w1 D := by rw [e1]; exact (Below.refl _ _).alloc (Nat.le_refl _) _
  have zD : D.heap.size = w1.heap.size + 1 := by rw [e1]; simp
  have hC : Code2 D w1.heap.size M n cap A xs D := ⟨Below.refl _ _, by omega, by rw [e1]; exact Obj.new _ _ _, sl_of_own (own_below hp1 bD (Nat.le_refl _))⟩
  have z1 := b1.size
  have BD : Below w.heap.size w D := b1.trans (bD.mono z1)
  have hdu := du_of hv
  have hvd := Lib.hid (v_dist hv)
  have hsh : wrap64 (2 ^ n) = 2 ^ n := (wrap16 (M := n) (by omega)).2.1
  have hcv : IntKind.u64.wrap (n : Int) = (n : Int) := IntWalk.u64_in _ (by omega)
  have hp2 : (1 : Int) ≤ 2 ^ n ∧ (2 : Int) ^ n ≤ 65536 := pow16 (by omega)
  have hbd := r8V_bd m 0 (2 ^ n) hp2.1
  obtain ⟨k, hk⟩ : ∃ k : Nat, r8V m 0 (2 ^ n) = (k : Int) := ⟨_, (Int.toNat_of_nonneg hbd.1).symm⟩
  rw [hk] at hbd
  have hk2 : k < 2 ^ n := by have := hbd.2; exact_mod_cast this
  obtain ⟨X, hX, hXM⟩ := v_word hv (k : Int)
  obtain ⟨C0, C1⟩ := hC.cells
  have HC := Lib.hid hC
  have HV := Lib.hid hv
  have HK := Lib.hid hk
  have HN := Lib.hid hn
  have HX := Lib.hid hX
  clear hp1 ho1 hC hv hk hbd HR8 HFL hX
  go_wp2_with (first | (rw [← e1]; clear e1) | (go_at_call 6; refine (HAT.out _ BD 0 (2 ^ n) (by decide) (by decide) (by omega)).mono ?_; rintro e w' ⟨rfl, rfl⟩; rw [HK.out]))
  have hXp : (0 : Int) ≤ X ∧ (X : Int) < 2 ^ M := ⟨by omega, by exact_mod_cast hXM⟩
  have HCAN := Lib.hid (can_yes HV.out hXp.1 hXp.2)
  have HW := Lib.hid (show ∃ k : Nat, k < 2 ^ n ∧ encL xs (k : Int) = (X : Int) from ⟨k, hk2, HX.out⟩)
  have HSP := Lib.hid ((sp_enc hdu.m hdu.rm hdu.n8 X).2 ⟨k, by rw [HN.out]; exact hk2, HX.out⟩)
  have HE := Lib.hid (v_ech HV.out HSP.out)
  have hinj : ∀ j : Nat, j < k → encL xs (j : Int) ≠ (X : Int) := fun j hj e => by
    have := enc_inj HV.out (a := j) (b := k) (by rw [HN.out]; omega) (by rw [HN.out]; exact hk2) (e.trans HX.out.symm)
    omega
  have HINJ := Lib.hid hinj
  clear hinj
  have HDU := Lib.hid hdu
  obtain ⟨d, hd, hd1, hdM, hdp, hdz⟩ := hvd.out
  have HD := Lib.hid hd
  have HDP := Lib.hid hdp
  have HDZ := Lib.hid hdz
  clear hdu hvd hd hdp hdz hXp
  refine (impl_EncodeBits_c D M A n cap xs HN.out (by omega) HC.out.sl HV.out k hk2).mono ?_
  rintro e w2 ⟨rfl, b2⟩
  rw [HX.out]
  have HC2 := Lib.hid (HC.out.next b2)
  clear b2 C0 C1
  obtain ⟨C0, C1⟩ := HC2.out.cells
  go_wp2_with fail
  refine (impl_InCode_c w2 M A n cap xs HN.out (by omega) HC2.out.sl X HCAN.out HW.out).mono ?_
  rintro e w3 ⟨rfl, b3⟩
  have HC3 := Lib.hid (HC2.out.next b3)
  clear b3 C0 C1
  obtain ⟨C0, C1⟩ := HC3.out.cells
  go_wp2_with fail
  refine (impl_DecodeBits_c w3 M A n cap xs HN.out (by omega) HC3.out.sl X HCAN.out k hk2 HX.out HINJ.out).mono ?_
  rintro e w4 ⟨rfl, b4⟩
  have HC4 := Lib.hid (HC3.out.next b4)
  clear b4 C0 C1
  obtain ⟨C0, C1⟩ := HC4.out.cells
  go_wp2_with fail
  refine (impl_WeightsOf_c w4 M A n cap xs HN.out (by omega) HC4.out.sl).mono ?_
  rintro e w5 ⟨v5, rfl, ho5, b5⟩
  have hwv : weightsV (M : Int) xs = wtRow M (codeL xs) := by unfold weightsV; rw [if_pos HV.out]; rfl
  rw [hwv] at ho5
  rw [HV.out]
  obtain ⟨A5, c5, rfl, hp5⟩ := ho5.opn
  obtain ⟨WS, hWS⟩ : ∃ WS, wtRow M (codeL xs) = WS := ⟨_, rfl⟩
  have hwl : WS.length = M + 1 := by rw [← hWS]; exact wtRow_len _ _
  rw [hWS, hwl] at hp5
  rw [hWS] at HDP HDZ
  rw [hWS, hwl]
  have HP5 := Lib.hid hp5
  have HWS := Lib.hid hWS
  have HWL := Lib.hid hwl
  have HC5 := Lib.hid (HC4.out.next b5)
  clear b5 C0 C1 ho5 hp5 hWS hwl hwv
  obtain ⟨C0, C1⟩ := HC5.out.cells
  go_wp2_with fail
  refine (impl_DistanceOf_c w5 M A n cap xs HN.out (by omega) HC5.out.sl).mono ?_
  rintro e w6 ⟨rfl, b6⟩
  rw [HD.out, HV.out]
  have HC6 := Lib.hid (HC5.out.next b6)
  have HP6 := Lib.hid (own_below HP5.out b6 (Nat.le_refl _))
  clear b6 C0 C1
  obtain ⟨C0, C1⟩ := HC6.out.cells
  go_wp2_with fail
  refine (impl_EchelonOf_c w6 M A n cap xs HN.out HC6.out.sl HV.out).mono ?_
  rintro e w7 ⟨v7, rfl, ho7, b7⟩
  obtain ⟨A7, c7, rfl, hp7⟩ := ho7.opn
  have hel : (echL M xs).length = n := by rw [echL_len]; exact HN.out
  obtain ⟨E, hE⟩ : ∃ E, echL M xs = E := ⟨_, rfl⟩
  have hev := ech_valid HV.out
  rw [hE] at hp7 hev hel HE
  rw [hel] at hp7 HE
  rw [hE, hel]
  obtain ⟨w8, e8⟩ : ∃ q : World, q = w7.alloc (.cells #[.int .i64 (M : Int), .slice A7 n c7] 27) := ⟨_, rfl⟩
  have b8 : Below w7.heap.size w7 w8 := by rw [e8]; exact (Below.refl _ _).alloc (Nat.le_refl _) _
  have z8 : w8.heap.size = w7.heap.size + 1 := by rw [e8]; simp
  have hq8 : Obj w8 w7.heap.size 27 #[.int .i64 (M : Int), .slice A7 n c7] := by rw [e8]; exact Obj.new _ _ _
  have HEV := Lib.hid hev
  have HEL := Lib.hid hel
  have HP8 := Lib.hid (own_below hp7 b8 (Nat.le_refl _))
  have hC7 := HC6.out.next b7
  have HC8 := Lib.hid (hC7.next b8)
  have HPW := Lib.hid (own_below (own_below HP6.out b7 (Nat.le_refl _)) b8 (Nat.le_refl _))
  clear C0 C1 ho7 hp7 hE hev hel b7 hC7 b8
  obtain ⟨C0, C1⟩ := HC8.out.cells
  obtain ⟨⟨D0, D1⟩, -⟩ := hq8.two
  clear hq8
  have hXp : (0 : Int) ≤ X ∧ (X : Int) < 2 ^ M := ⟨by omega, by exact_mod_cast hXM⟩
  have HCE := Lib.hid (can_yes HEV.out hXp.1 hXp.2)
  clear hXp
  go_wp2_with (rw [← e8]; clear e8)
  refine (impl_InCode_c w8 M A7 n c7 E HEL.out (by omega) (sl_of_own HP8.out) X HCE.out HE.out).mono ?_
  rintro e w9 ⟨rfl, b9⟩
  have HC9 := Lib.hid (HC8.out.next b9)
  have HPW9 := Lib.hid (own_below HPW.out b9 (Nat.le_refl _))
  clear b9 C0 C1 D0 D1 HCE HE HP8 HEL HEV HPW HP6 HP5 HC8
  obtain ⟨C0, C1⟩ := HC9.out.cells
  go_wp2_with fail
  refine (impl_ValidParity_c w9 M A n cap xs HN.out (by omega) HC9.out.sl).mono ?_
  rintro e w10 ⟨rfl, b10⟩
  rw [HV.out]
  have HC10 := Lib.hid (HC9.out.next b10)
  have hpw := own_below HPW9.out b10 (Nat.le_refl _)
  obtain ⟨b, off, hA5, hbz, hcs⟩ := sl_cells (sl_of_own hpw) (by rw [HWL.out]; omega)
  subst hA5
  have hg0 : WS.getD 0 0 = 1 := by rw [← HWS.out]; exact v_first HV.out
  have hc0 : w10.cell? ⟨b, off, none⟩ = some (.int .i64 1) := by have := hcs 0 (by rw [HWL.out]; omega); rw [hg0] at this; exact this
  have hcd := hcs d (by rw [HWL.out]; omega)
  obtain ⟨p, hp⟩ : ∃ p, WS.getD d 0 = p := ⟨_, rfl⟩
  have hp1 := HDP.out
  rw [hp] at hcd hp1
  obtain ⟨P, hP⟩ : ∃ P : Nat, 2 ^ n = P := ⟨_, rfl⟩
  have hPI : (2 : Int) ^ n = (P : Int) := by rw [← hP]; push_cast; rfl
  rw [hPI] at hsh
  have hp16 : P ≤ 16 := by rw [← hP]; exact Nat.pow_le_pow_right (n := 2) (by decide) (show n ≤ 4 by omega)
  have hsum := v_sum HV.out
  rw [HWS.out, HN.out, hP] at hsum
  have hsb := fun (i : Nat) (hi : i ≤ M + 1) => sumW_bd (M := M) (fun x hx => (v_wt HV.out hx).1) hi
  rw [HWS.out, codeL_len, HN.out, hP] at hsb
  have HSUM := Lib.hid hsum
  have HSB := Lib.hid hsb
  have HCS := Lib.hid hcs
  have HPI := Lib.hid hPI
  have HPP := Lib.hid hP
  have HPW := Lib.hid hpw
  have HG0 := Lib.hid hg0
  have hmd : ∀ e : Nat, e < 2 ^ M → 2 * wtN e M < d → leadV M (dualL M xs) ((X ^^^ e : Nat) : Int) = (e : Int) := fun e he h => v_mend HV.out (by rw [HWS.out]; exact HDZ.out) hXM HSP.out he h
  have HMD := Lib.hid hmd
  have hm0 := v_mend0 HV.out hXM HSP.out
  have HM0 := Lib.hid hm0
  have hany := fun (x : Nat) (hx : x < 2 ^ M) => v_any HV.out hx
  rw [HN.out] at hany
  have HANY := Lib.hid hany
  clear b10 C0 C1 hpw hcs hg0 hp hsum hsb hPI hP HPW9 HC9 hk2 hmd hm0 hany
  obtain ⟨C0, C1⟩ := HC10.out.cells
  go_wp2_with fail
  go_loop [22, 23] (fun u i => ∃ q : Nat, q ≤ M + 1 ∧ i = .int .i64 q ∧ u = .int .i64 (sumW WS q)) (fun _ i => M + 1 - (intOf i).toNat)
  case atStart => exact ⟨0, Nat.zero_le _, rfl, rfl⟩
  case round =>
    obtain ⟨q, hq, rfl, rfl⟩ := hrel
    by_cases hlt : q < M + 1
    · have hcq := HCS.out q (by rw [HWL.out]; exact hlt)
      have hs1 : sumW WS (q + 1) = sumW WS q + WS.getD q 0 := rfl
      have hsb1 := HSB.out q (by omega)
      have hsb2 := HSB.out (q + 1) (by omega)
      have hz := HDZ.out q
      obtain ⟨S, hS⟩ : ∃ S, sumW WS q = S := ⟨_, rfl⟩
      obtain ⟨g, hg⟩ : ∃ g, WS.getD q 0 = g := ⟨_, rfl⟩
      rw [hs1, hS, hg] at hsb2
      rw [hS] at hsb1 ⊢
      rw [hS, hg] at hs1
      rw [hg] at hcq hz
      have HS1 := Lib.hid hs1
      have HGQ := Lib.hid hg
      clear hs1 hS hg
      by_cases h0 : 0 < q
      · by_cases h1 : q < d
        · have hg0 := hz h0 h1
          subst hg0
          clear hz
          go_wp2
          go_round
          case rel => exact ⟨q + 1, by omega, by go_num, by rw [HS1.out, Int.add_zero]⟩
          case measure => simp [intOf]; omega
        · clear hz
          go_wp2
          go_round
          case rel => exact ⟨q + 1, by omega, by go_num, by rw [HS1.out]⟩
          case measure => simp [intOf]; omega
      · clear hz
        obtain rfl : q = 0 := by omega
        go_wp2
        go_round
        case rel => exact ⟨0 + 1, by omega, by go_num, by rw [HS1.out, ← HGQ.out, HG0.out]⟩
        case measure => simp [intOf]
    · have : q = M + 1 := by omega
      subst this
      rw [HSUM.out]
      clear hlt hq
      have hpn : ((P : Int) != 2 ^ n) = false := by rw [HPI.out]; simp
      have hval := (du_of HV.out).valid
      have hdl := (du_of HV.out).len
      go_wp2_with fail
      refine (impl_DualOf_c w10 M A n cap xs HN.out HC10.out.sl HV.out).mono ?_
      rintro e w11 ⟨S, kc, rfl, hp11, b11⟩
      have HEV := Lib.hid HV.out
      have HC11 := Lib.hid (HC10.out.next b11)
      have hla := v_listA_len HV.out
      have hl0 := v_listA_0 HV.out
      have hlx := v_list0 HV.out hXM HSP.out
      have hok1 := v_ok HV.out hXM (far := 0) (by decide) (by decide)
      have hok2 := v_okA HV.out
      rw [HN.out] at hval hdl
      rw [HN.out, HPP.out] at hla
      obtain ⟨LA, hLA⟩ : ∃ LA, listV (M : Int) xs 0 16 = LA := ⟨_, rfl⟩
      rw [hLA] at hla hl0
      have HLA := Lib.hid hLA
      have HLL := Lib.hid hla
      have HL0 := Lib.hid hl0
      have HLX := Lib.hid hlx
      have HK1 := Lib.hid hok1
      have HK2 := Lib.hid hok2
      clear hLA hla hl0 hlx hok1 hok2 C0 C1 hcd hc0 HC10 HPW HWS HWL HSB HSUM HCS HDP HG0
      cases hdv : validParB (M : Int) (dualL M xs)
      · have hnM : ¬ n < M := by
          intro hlt
          rw [hdv, decide_eq_true hlt, decide_eq_true (by omega)] at hval
          cases hval
        clear hval hdv
        simp only [asP]
        have b12 : Below w11.heap.size w11 (w11.alloc (.cells #[.int .i64 0, .slice none 0 0] 27)) := (Below.refl _ _).alloc (Nat.le_refl _) _
        have hC12 := HC11.out.next b12
        obtain ⟨C0, C1⟩ := hC12.cells
        have HB12 := Lib.hid b12
        clear hC12 b12
        go_wp2_with fail
        clear C0 C1
        obtain ⟨w12, e12⟩ : ∃ q : World, q = w11.alloc (.cells #[.int .i64 0, .slice none 0 0] 27) := ⟨_, rfl⟩
        have b12 := HB12.out
        rw [← e12] at b12
        rw [← e12]
        have HC12 := Lib.hid (HC11.out.next b12)
        obtain ⟨C0, C1⟩ := HC12.out.cells
        clear e12 b12 HB12
        refine (impl_ListWords_c w12 M A n cap xs HN.out (by omega) HC12.out.sl X 0).mono ?_
        rintro e w13 ⟨v13, rfl, ho13, b13⟩
        rw [HLX.out] at ho13
        rw [HK1.out]
        obtain ⟨A13, c13, rfl, hp13⟩ := ho13.opn
        rw [show [(X : Int)].length = 1 from rfl] at hp13 ⊢
        have HC13 := Lib.hid (HC12.out.next b13)
        have HP13 := Lib.hid hp13
        clear C0 C1 ho13 hp13 b13
        obtain ⟨C0, C1⟩ := HC13.out.cells
        go_wp2_with fail
        refine (impl_ListWords_c w13 M A n cap xs HN.out (by omega) HC13.out.sl 0 16).mono ?_
        rintro e w14 ⟨v14, rfl, ho14, b14⟩
        rw [HLA.out] at ho14
        rw [HK2.out]
        obtain ⟨A14, c14, rfl, hp14⟩ := ho14.opn
        rw [HLL.out] at hp14 ⊢
        have hp13 := own_below HP13.out b14 (Nat.le_refl _)
        obtain ⟨b3, o3, hA3, -, hcs3⟩ := sl_cells (sl_of_own hp13) (by simp)
        obtain ⟨b4, o4, hA4, -, hcs4⟩ := sl_cells (sl_of_own hp14) (by rw [HLL.out, ← HPP.out]; exact Nat.pow_pos (by decide))
        have hc3 : w14.cell? ⟨b3, o3, none⟩ = some (.int .i64 X) := hcs3 0 (by simp)
        have hc4 : w14.cell? ⟨b4, o4, none⟩ = some (.int .i64 0) := by have := hcs4 0 (by rw [HLL.out, ← HPP.out]; exact Nat.pow_pos (by decide)); rw [HL0.out] at this; exact this
        have hP1 : 1 ≤ P := by rw [← HPP.out]; exact Nat.pow_pos (by decide)
        subst hA3 hA4
        have HC14 := Lib.hid (HC13.out.next b14)
        clear C0 C1 ho14 hp14 hp13 b14 hcs3 hcs4
        go_wp2
        go_ret
        exact ⟨rfl, BD.trans (HC14.out.1.mono BD.size)⟩
      · have hnM : n < M := by
          rcases Nat.lt_or_ge n M with h | h
          · exact h
          · rw [hdv, decide_eq_false (by omega)] at hval
            cases hval
        clear hval
        have hMn8 : (M : Int) - (n : Int) ≤ 8 := by omega
        have HDV := Lib.hid (dv_of HN.out HV.out hdv)
        have HAND := Lib.hid (fun i j => v_and HV.out i j)
        have HDL := Lib.hid (fun (i j : Nat) hi hj => v_dual HV.out (i := i) (k := j) hi hj)
        have HS0 := Lib.hid (v_syn HV.out hXM HSP.out)
        have HLD0 := Lib.hid (v_lead0 HV.out)
        have HLL2 := Lib.hid (leadK_len (dualL M xs) (2 ^ M))
        simp only [asP]
        obtain ⟨DL, hDL⟩ : ∃ DL, dualL M xs = DL := ⟨_, rfl⟩
        obtain ⟨dn, hdn⟩ : ∃ dn, DL.length = dn := ⟨_, rfl⟩
        rw [hDL] at hdl HAND HDL HS0 HLD0 HLL2 hp11
        rw [hdn] at hdl HDL HLL2 hp11
        obtain ⟨Q, hQ⟩ : ∃ Q : Nat, 2 ^ dn = Q := ⟨_, rfl⟩
        rw [hQ] at HLL2
        have HQQ := Lib.hid hQ
        clear hQ
        rw [hDL, hdn]
        have HQD := Lib.hid hDL
        have HQN := Lib.hid hdn
        clear hDL hdn hdv
        obtain ⟨T, hT⟩ : ∃ T, w11.heap.size = T := ⟨_, rfl⟩
        obtain ⟨w12, e12⟩ : ∃ q : World, q = w11.alloc (.cells #[.int .i64 (M : Int), .slice S dn kc] 27) := ⟨_, rfl⟩
        have b12 : Below w11.heap.size w11 w12 := by rw [e12]; exact (Below.refl _ _).alloc (Nat.le_refl _) _
        have z12 : w12.heap.size = T + 1 := by rw [e12]; simp [hT]
        have hE : Code2 w12 T M dn kc S DL w12 := ⟨Below.refl _ _, by omega, by rw [e12, ← hT]; exact Obj.new _ _ _, sl_of_own (own_below hp11 b12 (Nat.le_refl _))⟩
        have HE := Lib.hid hE
        have HC12 := Lib.hid (HC11.out.next b12)
        obtain ⟨C0, C1⟩ := HC12.out.cells
        obtain ⟨D0, D1⟩ := HE.out.cells
        clear b12 hE hp11
        go_wp2_with (rw [← e12]; clear e12)
        refine (impl_ListWords_c w12 M A n cap xs HN.out (by omega) HC12.out.sl X 0).mono ?_
        rintro e w13 ⟨v13, rfl, ho13, b13⟩
        rw [HLX.out] at ho13
        rw [HK1.out]
        obtain ⟨A13, c13, rfl, hp13⟩ := ho13.opn
        rw [show [(X : Int)].length = 1 from rfl] at hp13 ⊢
        have HC13 := Lib.hid (HC12.out.next b13)
        have HE13 := Lib.hid (HE.out.next b13)
        have HP13 := Lib.hid hp13
        clear C0 C1 D0 D1 ho13 hp13 b13
        obtain ⟨C0, C1⟩ := HC13.out.cells
        obtain ⟨D0, D1⟩ := HE13.out.cells
        go_wp2_with fail
        refine (impl_ListWords_c w13 M A n cap xs HN.out (by omega) HC13.out.sl 0 16).mono ?_
        rintro e w14 ⟨v14, rfl, ho14, b14⟩
        rw [HLA.out] at ho14
        rw [HK2.out]
        obtain ⟨A14, c14, rfl, hp14⟩ := ho14.opn
        rw [HLL.out] at hp14 ⊢
        have hp13 := own_below HP13.out b14 (Nat.le_refl _)
        obtain ⟨b3, o3, hA3, -, hcs3⟩ := sl_cells (sl_of_own hp13) (by simp)
        obtain ⟨b4, o4, hA4, -, hcs4⟩ := sl_cells (sl_of_own hp14) (by rw [HLL.out, ← HPP.out]; exact Nat.pow_pos (by decide))
        have hc3 : w14.cell? ⟨b3, o3, none⟩ = some (.int .i64 X) := hcs3 0 (by simp)
        have hc4 : w14.cell? ⟨b4, o4, none⟩ = some (.int .i64 0) := by have := hcs4 0 (by rw [HLL.out, ← HPP.out]; exact Nat.pow_pos (by decide)); rw [HL0.out] at this; exact this
        have hP1 : 1 ≤ P := by rw [← HPP.out]; exact Nat.pow_pos (by decide)
        subst hA3 hA4
        have HC14 := Lib.hid (HC13.out.next b14)
        have HE14 := Lib.hid (HE13.out.next b14)
        clear C0 C1 D0 D1 ho14 hp14 hp13 b14 hcs3 hcs4
        obtain ⟨C0, C1⟩ := HC14.out.cells
        obtain ⟨D0, D1⟩ := HE14.out.cells
        have hnx : 0 < xs.length := (du_of HV.out).n1
        obtain ⟨bA, oA, hA, -, hAc⟩ := sl_cells HC14.out.sl hnx
        obtain ⟨bS, oS, hS, -, hSc⟩ := sl_cells HE14.out.sl (by rw [HQN.out]; omega)
        rw [HN.out] at hAc
        rw [HQN.out] at hSc
        subst hA hS
        have HAC := Lib.hid hAc
        have HSC := Lib.hid hSc
        clear hAc hSc hnx
        go_wp2
        clear hc3 hc4 C0 C1 D0 D1
        go_loopw [30] (fun i wr => ∃ p q : Nat, p ≤ dn ∧ i = .int .i64 p ∧ wr = w14.drewN q) (fun i _ => dn - (intOf i).toNat)
        case atStart => exact ⟨0, 0, Nat.zero_le _, rfl, rfl⟩
        case round =>
          obtain ⟨p1, q1, hp1, rfl, rfl⟩ := hrel
          obtain ⟨D0, D1⟩ := HE14.out.cells
          by_cases hlt1 : p1 < dn
          · go_wp2
            clear D0 D1
            go_loopw [31] (fun i wr => ∃ p q : Nat, p ≤ n ∧ i = .int .i64 p ∧ wr = w14.drewN q) (fun i _ => n - (intOf i).toNat)
            case atStart => exact ⟨0, q1, Nat.zero_le _, rfl, rfl⟩
            case round =>
              obtain ⟨p2, q2, hp2, rfl, rfl⟩ := hrel
              obtain ⟨C0, C1⟩ := HC14.out.cells
              obtain ⟨D0, D1⟩ := HE14.out.cells
              by_cases hlt2 : p2 < n
              · have cA := HAC.out p2 hlt2
                have cS := HSC.out p1 hlt1
                have hz := HAND.out p1 p2
                have hd2 := HDL.out p1 p2 hlt1 (by rw [HN.out]; exact hlt2)
                obtain ⟨x1, hx1⟩ : ∃ x, DL.getD p1 0 = x := ⟨_, rfl⟩
                obtain ⟨x2, hx2⟩ : ∃ x, xs.getD p2 0 = x := ⟨_, rfl⟩
                rw [hx1] at cS hz hd2
                rw [hx2] at cA hz hd2
                have hz0 := hz.1
                have hz1 := hz.2
                have hy0 := (wt_bd (m := 16) (Nat.le_refl _) hz.1 (by omega)).1
                have HZ := Lib.hid hz
                have hyt : (wt (bits .and .i64 x1 x2)).tmod 2 = 0 := by rw [Int.tmod_eq_emod_of_nonneg hy0]; exact hd2
                have hyb : ((wt (bits .and .i64 x1 x2)).tmod 2 != 0) = false := by rw [hyt]; rfl
                clear hx1 hx2 hz
                go_wp2
                go_quiet ((go_at_call 17; exact ones_at HZ.out.1 HZ.out.2))
                go_wp2
                go_roundw
                case rel => exact ⟨p2 + 1, _, by omega, by go_num, rfl⟩
                case measure => simp [intOf]; omega
              · go_wp2
                go_roundw
                case rel => exact ⟨p1 + 1, q2, by omega, by go_num, rfl⟩
                case measure => simp [intOf]; omega
          · have HDJ := Lib.hid HDV.out
            obtain ⟨w15, h15⟩ : ∃ W, w14.drewN q1 = W := ⟨_, rfl⟩
            have HC15 := Lib.hid (HC14.out.drewN q1)
            have HE15 := Lib.hid (HE14.out.drewN q1)
            rw [h15] at HC15 HE15
            rw [h15]
            clear D0 D1
            obtain ⟨C0, C1⟩ := HC15.out.cells
            obtain ⟨D0, D1⟩ := HE15.out.cells
            have hXp : (0 : Int) ≤ X ∧ (X : Int) < 2 ^ M := ⟨by omega, by exact_mod_cast hXM⟩
            have HXP := Lib.hid hXp
            clear hXp h15
            go_wp2_with fail
            refine (impl_SyndromeOf_c w15 M _ n cap xs HDV.out HC15.out.sl X HXP.out.1 HXP.out.2).mono ?_
            rintro e w16 ⟨rfl, b16⟩
            rw [HQD.out, HS0.out]
            have HC16 := Lib.hid (HC15.out.next b16)
            have HE16 := Lib.hid (HE15.out.next b16)
            clear C0 C1 D0 D1 b16
            obtain ⟨C0, C1⟩ := HC16.out.cells
            go_wp2_with fail
            refine (impl_LeadersOf_c w16 M _ n cap xs HDV.out HC16.out.sl).mono ?_
            rintro e w17 ⟨v17, rfl, ho17, b17⟩
            rw [HQD.out] at ho17
            obtain ⟨A17, c17, rfl, hp17⟩ := ho17.opn
            obtain ⟨LL, hLL⟩ : ∃ LL, leadK DL (2 ^ M) = LL := ⟨_, rfl⟩
            rw [hLL] at HLL2 HLD0 hp17
            rw [HLL2.out] at hp17
            rw [hLL, HLL2.out]
            have HP17 := Lib.hid hp17
            have HC17 := Lib.hid (HC16.out.next b17)
            have HE17 := Lib.hid (HE16.out.next b17)
            clear C0 C1 b17 ho17 hp17 hLL
            obtain ⟨C0, C1⟩ := HC17.out.cells
            have hM1 : 1 ≤ M := by omega
            have hsv := r8V_bd m 1 M (by omega)
            obtain ⟨s, hs⟩ : ∃ s : Nat, r8V m 1 M = (s : Int) := ⟨_, (Int.toNat_of_nonneg hsv.1).symm⟩
            rw [hs] at hsv
            obtain ⟨f, hf⟩ : ∃ f : Nat, (d - 1) / 2 = f := ⟨_, rfl⟩
            have hfI : ((d : Int) - 1) / 2 = (f : Int) := by omega
            have hfM : f ≤ M := by omega
            have hfd : 2 * f < d := by omega
            have HSV := Lib.hid hs
            have B17 := BD.trans (HC17.out.1.mono BD.size)
            have hrq : ∀ q j : Nat, Calls Try.prog 6 #[.slice A2 n2 cap2, .int .i64 1, .int .i64 (M : Int)] (w17.drewN (q + j)) fun e w' => e = .returned (.int .i64 (s : Int)) ∧ ∃ k, w' = w17.drewN (q + k) := fun q j => by
              refine (HAT.out (w17.drewN (q + j)) (below_drewN B17 _) 1 M (by decide) (by decide) (by omega)).mono ?_
              rintro e w' ⟨rfl, rfl⟩
              exact ⟨by rw [HSV.out], j, rfl⟩
            have HRQ := Lib.hid hrq
            clear hrq hs hf
            go_wp2
            rw [hfI]
            clear C0 C1
            go_loopw [36, 38] (fun u i wr => ∃ p q : Nat, p ≤ f ∧ i = .int .i64 p ∧ u = .int .i64 ((X ^^^ errN M s p : Nat) : Int) ∧ wr = w17.drewN q) (fun _ i _ => f - (intOf i).toNat)
            case atStart => exact ⟨0, 0, Nat.zero_le _, rfl, by rw [show errN M s 0 = 0 from rfl, Nat.xor_zero], rfl⟩
            case round =>
              obtain ⟨p3, q3, hp3, rfl, rfl, rfl⟩ := hrel
              obtain ⟨C0, C1⟩ := HC17.out.cells
              by_cases hlt3 : p3 < f
              · obtain ⟨r, hr⟩ : ∃ r, (s + p3) % M = r := ⟨_, rfl⟩
                have hrM : r < M := by rw [← hr]; exact Nat.mod_lt _ hM1
                have hes := errN_succ M s p3
                rw [hr] at hes
                have he1 := errN_lt (M := M) (s := s) hM1 p3
                have hxe : X ^^^ errN M s p3 < 2 ^ M := Nat.xor_lt_two_pow hXM he1
                have hr2 : 2 ^ r < 2 ^ M := Nat.pow_lt_pow_right (by decide) hrM
                have hxx := xorI_w (by omega) hxe hr2
                rw [Nat.xor_assoc, ← hes] at hxx
                unfold xorI at hxx
                push_cast at hxx
                have hm1 : ((s : Int) + (p3 : Int)).tmod (M : Int) = (r : Int) := by rw [Int.tmod_eq_emod_of_nonneg (by omega)]; rw [← hr]; push_cast; rfl
                have hm2 : (IntKind.i64.wrap ((s : Int) + (p3 : Int))) = (s : Int) + (p3 : Int) := IntWalk.i64_in _ (by omega)
                have hm3 : IntKind.u64.wrap (r : Int) = (r : Int) := IntWalk.u64_in _ (by omega)
                have hm4 : IntKind.i64.wrap (2 ^ r) = 2 ^ r := (wrap16 (M := r) (by omega)).1
                have hm5 : wrap64 (2 ^ r) = 2 ^ r := (wrap16 (M := r) (by omega)).2.1
                have hm6 : IntKind.i64.wrap (r : Int) = (r : Int) := IntWalk.i64_in _ (by omega)
                have hM0 : (M : Int) ≠ 0 := by omega
                clear hr hes he1 hxe hr2
                go_wp2
                go_quiet ((go_at_call 6; exact HRQ.out _ _))
                go_wp2
                go_roundw
                case rel => exact ⟨p3 + 1, _, by omega, by go_num, by first | rfl | rw [hxx], rfl⟩
                case measure => simp [intOf]; omega
              · have hpf : p3 = f := by omega
                rw [hpf]
                obtain ⟨e0, he0⟩ : ∃ e, errN M s f = e := ⟨_, rfl⟩
                have heM : e0 < 2 ^ M := by rw [← he0]; exact errN_lt hM1 f
                have hew : wtN e0 M = f := by rw [← he0]; exact errN_wt hM1 hfM
                have hM16 : M ≤ 16 := by omega
                have hwt := wt_M hM16 heM
                rw [hew] at hwt
                have hld := HMD.out e0 heM (by rw [hew]; exact hfd)
                have hYM : X ^^^ e0 < 2 ^ M := Nat.xor_lt_two_pow hXM heM
                have hx1 := xorI_w hM16 hYM heM
                rw [Nat.xor_assoc, Nat.xor_self, Nat.xor_zero] at hx1
                have hx2 := xorI_w hM16 hYM hXM
                rw [Nat.xor_comm X e0, Nat.xor_assoc, Nat.xor_self, Nat.xor_zero, Nat.xor_comm e0 X] at hx2
                have hx3 := xorI_w hM16 hXM (y := 0) (Nat.pow_pos (by decide))
                rw [Nat.xor_zero] at hx3
                obtain ⟨Y, hY⟩ : ∃ Y, X ^^^ e0 = Y := ⟨_, rfl⟩
                rw [hY] at hld hYM hx1 hx2
                rw [he0, hY]
                have hml : mendL M (dualL M xs) [(Y : Int), (X : Int)] = [(X : Int), (X : Int)] := by
                  unfold mendL
                  simp only [List.map_cons, List.map_nil]
                  rw [hld, HM0.out, hx1]
                  rw [show (0 : Int) = ((0 : Nat) : Int) from rfl, hx3]
                have hYp : (0 : Int) ≤ Y ∧ (Y : Int) < 2 ^ M := ⟨by omega, by exact_mod_cast hYM⟩
                obtain ⟨w18, h18⟩ : ∃ W, w17.drewN q3 = W := ⟨_, rfl⟩
                have hC18 := HC17.out.drewN q3
                have hE18 := HE17.out.drewN q3
                have hp18 : (w17.drewN q3).ownsRow w16.heap.size 2 1 (.slice A17 Q c17) Q (LL.map (Value.int .i64)) := HP17.out
                rw [h18] at hC18 hE18 hp18
                rw [h18]
                have HC18 := Lib.hid hC18
                have HE18 := Lib.hid hE18
                have HP18 := Lib.hid hp18
                have HML := Lib.hid hml
                have HLD := Lib.hid hld
                have HX1 := Lib.hid hx1
                have HX2 := Lib.hid hx2
                have HWT := Lib.hid hwt
                have HYP := Lib.hid hYp
                have HP16 := Lib.hid (pow16 hM16)
                clear hpf he0 hew hld hx1 hx2 hx3 hY hml hC18 hE18 hp18 h18 hwt hlt3 hp3 C0 C1 heM hp2
                clear hYp
                obtain ⟨C0, C1⟩ := HC18.out.cells
                go_wp2_with fail
                refine (impl_MendWord_c w18 M _ n cap xs HDV.out HC18.out.sl Y HYP.out.1 HYP.out.2).mono ?_
                rintro e w19 ⟨rfl, b19⟩
                rw [HLD.out, HX1.out, HWT.out]
                have HC19 := Lib.hid (HC18.out.next b19)
                have HE19 := Lib.hid (HE18.out.next b19)
                have HP19 := Lib.hid (own_below HP18.out b19 (Nat.le_refl _))
                clear b19 C0 C1
                obtain ⟨C0, C1⟩ := HC19.out.cells
                have htv := r8V_bd m 2 8 (by decide)
                obtain ⟨t, ht⟩ : ∃ t, r8V m 2 8 = t := ⟨_, rfl⟩
                rw [ht] at htv
                have HTV := Lib.hid ht
                clear ht
                have B19 := BD.trans (HC19.out.1.mono BD.size)
                have bal : Below w19.heap.size w19 (w19.alloc (.cells #[.int .i64 (Y : Int), .int .i64 (X : Int)] 2)) := (Below.refl _ _).alloc (Nat.le_refl _) _
                have hca := (HC19.out.next bal).drewN 1
                have hsn := sl_new2 w19 (Y : Int) (X : Int)
                have hb2 : ∀ x ∈ [(Y : Int), (X : Int)], 0 ≤ x ∧ x < 2 ^ M := by
                  intro x hx
                  rcases List.mem_cons.1 hx with rfl | hx
                  · exact HYP.out
                  · rw [List.mem_singleton.1 hx]; exact HXP.out
                have hwr : IntKind.i64.wrap (1 + t) = 1 + t := IntWalk.i64_in _ (by omega)
                have HWR := Lib.hid hwr
                have HMS := Lib.hid (impl_MendsShared_c (w19.alloc (.cells #[.int .i64 (Y : Int), .int .i64 (X : Int)] 2)).drew M _ n cap xs HDV.out hca.sl (some ⟨w19.heap.size, 0, none⟩) 2 2 [(Y : Int), (X : Int)] rfl (by omega) hb2 hsn (1 + t) (by omega) (by omega))
                rw [HML.out] at HMS
                have HBD := Lib.hid (B19.trans (bal.mono B19.size))
                have HAL := Lib.hid bal
                have HB3 := Lib.hid (HAT.out (w19.alloc (.cells #[.int .i64 (Y : Int), .int .i64 (X : Int)] 2)).drew (below_drewN (B19.trans (bal.mono B19.size)) 1) 2 8 (by decide) (by decide) (by decide))
                have HB4 := Lib.hid (HAT.out w19.drew (below_drewN B19 1) 2 8 (by decide) (by decide) (by decide))
                rw [HTV.out] at HB3 HB4
                have HCA := Lib.hid (show Code2 D w1.heap.size M n cap _ xs (w19.alloc (.cells #[.int .i64 (Y : Int), .int .i64 (X : Int)] 2)).drew from hca)
                clear bal hb2 hca hsn hwr
                go_wp2_with fail
                go_region_held3 (fun w' => w'.cell? ⟨w1.heap.size, 0, none⟩ = some (.int .i64 (M : Int)) ∧ w'.cell? ⟨w1.heap.size, 1, none⟩ = some (.slice (some ⟨bA, oA, none⟩) n cap))
                  (first | exact ⟨C0, C1⟩ | exact HCA.out.cells | exact HC20.out.cells)
                  (first
                    | (go_at_call 28; rw [HWR.out]; refine HMS.out.mono ?_; rintro e w20 ⟨v20, rfl, ho20, b20⟩; have HC20 := Lib.hid (HCA.out.next b20))
                    | (go_at_call 6; refine HB3.out.mono ?_; rintro e w' ⟨rfl, rfl⟩)
                    | (go_at_call 6; refine HB4.out.mono ?_; rintro e w' ⟨rfl, rfl⟩))
                all_goals
                  have b20n := HAL.out.trans ((below_undrew b20).mono HAL.out.size)
                  have HP20 := Lib.hid (own_below HP19.out b20n (Nat.le_refl _))
                  have HE20 := Lib.hid (HE19.out.next b20n)
                  obtain ⟨A20, c20, rfl, hp20⟩ := ho20.opn
                  rw [show [(X : Int), (X : Int)].length = 2 from rfl] at hp20 ⊢
                  have B20 := BD.trans (HC20.out.1.mono BD.size)
                  have hpM : (1 : Int) ≤ 2 ^ M ∧ (2 : Int) ^ M ≤ 65536 := HP16.out
                  have hat := HAT.out w20 B20 3 (2 ^ M) (by decide) (by decide) (Int.le_trans hpM.2 (by decide))
                  have hfa : wt (xorI (Y : Int) (X : Int)) = (f : Int) := by rw [HX2.out, HWT.out]
                  have hdn8 : dn ≤ 8 := by omega
                  refine (‹∀ (a : Act) (w : World), Code.wp Try.prog _ _ a w → _› _ _ ?_ : _)
                  apply tail_FnParities w w20 D w12 w1.heap.size T M n cap dn kc n2 cap2 Q c17 c20 X Y f w16.heap.size _ _ _ A2 A17 A20 xs DL LL m HC20.out HE20.out B20 HDV.out hM8 HP20.out HLL2.out HLD0.out HQQ.out hdn8 hp20 HXP.out.2 HYP.out.2 hfa hat

end Go.Proofs.Ytldnhflgpbcmeaa
