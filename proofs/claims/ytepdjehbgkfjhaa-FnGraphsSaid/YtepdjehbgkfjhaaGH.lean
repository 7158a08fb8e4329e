/-
  Contracts: the reference's LeastRounds at a valid graph and small numbers.
  Conditions: as the theorem says.
-/
import Derived.Test.YtepdjehbgkfjhaaGG
namespace Go.Proofs.Ytepdjehbgkfjhaa
open Go.RowKit

theorem softB_all {xs : List Nat} (h : softB xs = true) : (xs.all fun x => finB (fl .f32 x)) = true := by
  unfold softB at h
  rw [Bool.and_eq_true] at h
  exact h.2


set_option maxRecDepth 100000 in
set_option maxHeartbeats 20000000 in
theorem spec_Least_c (w : World) (A As : Option Addr) (n cap ns caps K : Nat) (ys : List RowH) (D : List (List Int)) (soft : List Nat) (hd : dat ys = D) (hl : ys.length = n) (hn : n ≤ 32) (hr : ∀ r ∈ ys, r.2.2.length ≤ 32) (hx0 : Sl2 w w.heap.size A ys)
    (hls : soft.length = ns) (hns : ns ≤ 32) (hs0 : Sl w w.heap.size As (soft.map (Value.float .f32))) (hv : validGraphB (ns : Int) D = true) (hf : softB soft = true) (hK : K ≤ 64) (hS : ∀ b, Low 10 (soft.getD b 0)) (hb : 10 + (2 * n + 1) * K + 2 * n ≤ 118) (ho : ∀ r, r < n → Once (D.getD r [])) :
    Calls Try.prog 11 #[.agg #[.int .i64 (ns : Int), .slice A n cap], .slice As ns caps, .int .i64 (K : Int)] w (LeastPost w D soft n K) := by
  obtain ⟨w1, ew⟩ : ∃ q : World, q = w.alloc (.cells #[.int .i64 (ns : Int), .slice A n cap] 26) := ⟨_, rfl⟩
  have hB : Below w.heap.size w w1 := by rw [ew]; exact (Below.refl _ _).alloc (Nat.le_refl _) _
  have c0 : w1.cell? ⟨w.heap.size, 0, none⟩ = some (.int .i64 (ns : Int)) := by rw [ew]; (first | (simp; done) | (simp (disch := (first | (simp; done) | (simp; omega))) [World.cell?_alloc_at]; done) | (simp (disch := (first | (simp; done) | (simp; omega))) [World.cell?_alloc_past]; done) | (simp (disch := (first | (simp; done) | (simp; omega))) [World.cell?_alloc_at, World.cell?_alloc_past]; done) | (simp (disch := (first | (simp; done) | (simp; omega))) [World.frozen?_alloc_at]; done) | (simp (disch := (first | (simp; done) | (simp; omega))) [World.frozen?_alloc_past]; done) | (simp (disch := (first | (simp; done) | (simp; omega))) [World.frozen?_alloc_at, World.frozen?_alloc_past]; done))
  have c1 : w1.cell? ⟨w.heap.size, 1, none⟩ = some (.slice A n cap) := by rw [ew]; (first | (simp; done) | (simp (disch := (first | (simp; done) | (simp; omega))) [World.cell?_alloc_at]; done) | (simp (disch := (first | (simp; done) | (simp; omega))) [World.cell?_alloc_past]; done) | (simp (disch := (first | (simp; done) | (simp; omega))) [World.cell?_alloc_at, World.cell?_alloc_past]; done) | (simp (disch := (first | (simp; done) | (simp; omega))) [World.frozen?_alloc_at]; done) | (simp (disch := (first | (simp; done) | (simp; omega))) [World.frozen?_alloc_past]; done) | (simp (disch := (first | (simp; done) | (simp; omega))) [World.frozen?_alloc_at, World.frozen?_alloc_past]; done))
  have hz : w1.heap.size = w.heap.size + 1 := by rw [ew]; simp
  have hx := (hx0.below hB).more hB.size
  have hs := (hs0.below hB).more hB.size
  have hdl : D.length = n := by rw [← hd, dat_len, hl]
  have hin := vg_in hv
  obtain ⟨hm1, hm2, hn32, h32⟩ := vg_short hv
  have hw := (inB_true (n := (K : Int)) (lo := 0) (hi := 64)).2 (by omega)
  have hf2 := softB_all hf
  have HV := Lib.hid hv
  have HF := Lib.hid hf2
  have HW := Lib.hid hw
  have HIN := Lib.hid hin
  have HH := Lib.hid h32
  have HO := Lib.hid ho
  have HSS := Lib.hid hS
  have HBD := Lib.hid hb
  have HX := Lib.hid hx
  have HSL := Lib.hid hs
  have HB := Lib.hid hB
  have hr2 : ∀ r ∈ ys, r.2.2.length ≤ 1048576 := fun r h => Nat.le_trans (hr r h) (by decide)
  have HR := Lib.hid hr
  have HR2 := Lib.hid hr2
  clear hx0 hs0 hv hf hf2 hw hin h32 ho hS hb hx hs hr hr2 hB
  have hnd : ((ns : Int) != (ns : Int)) = false := by simp
  go_enter Try.func11, Try.ntmps11
  go_wp2_with fail
  rw [← ew]
  clear ew
  refine (spec_l07Graph_c w1 w.heap.size (ns : Int) w1.heap.size A n cap ys D hd c0 c1 hl (by omega) HR2.out HX.out).mono ?_
  rintro e w2' ⟨rfl, q, rfl⟩
  rw [HV.out]
  obtain ⟨w2, ew2⟩ : ∃ x : World, x = w1.drewN q := ⟨_, rfl⟩
  have d0 : w2.cell? ⟨w.heap.size, 0, none⟩ = some (.int .i64 (ns : Int)) := by rw [ew2]; exact c0
  have d1 : w2.cell? ⟨w.heap.size, 1, none⟩ = some (.slice A n cap) := by rw [ew2]; exact c1
  have HB2 := Lib.hid (show Below w.heap.size w w2 by rw [ew2]; exact below_drewN HB.out _)
  have hz2 : w.heap.size < w2.heap.size := by rw [ew2]; show w.heap.size < w1.heap.size; omega
  have HX2 := Lib.hid (show Sl2 w2 w2.heap.size A ys by rw [ew2]; exact HX.out.drewN q)
  have HS2 := Lib.hid (show Sl w2 w2.heap.size As (soft.map (Value.float .f32)) by rw [ew2]; exact HSL.out.drewN q)
  rw [← ew2]
  clear ew2 c0 c1 HX HSL HB hz
  go_wp2_with (first
    | (go_at_call 33; refine (spec_l02Finite_c w2 _ As ns caps soft hls (by omega) HS2.out).mono ?_; rintro e w' ⟨rfl, q2, rfl⟩; rw [HF.out])
    | (go_at_call 26; refine (spec_l00In_c _ _ _ _).mono ?_; rintro e w' ⟨rfl, rfl⟩; rw [HW.out]; obtain ⟨w3, ew3⟩ : ∃ x : World, x = w2.drewN q2 := ⟨_, rfl⟩; rw [← ew3]; have e0 : w3.cell? ⟨w.heap.size, 0, none⟩ = some (.int .i64 (ns : Int)) := (by rw [ew3]; exact d0); have e1 : w3.cell? ⟨w.heap.size, 1, none⟩ = some (.slice A n cap) := (by rw [ew3]; exact d1); have hz3 : w.heap.size < w3.heap.size := (by rw [ew3]; exact hz2); have HB3 := Lib.hid (show Below w.heap.size w w3 by rw [ew3]; exact below_drewN HB2.out _); have HX3 := Lib.hid (show Sl2 w3 w3.heap.size A ys by rw [ew3]; exact HX2.out.drewN q2); have HS3 := Lib.hid (show Sl w3 w3.heap.size As (soft.map (Value.float .f32)) by rw [ew3]; exact HS2.out.drewN q2); clear ew3 d0 d1 hz2 HB2 HX2 HS2))
  have hnil := Own2.nil w3 w3.heap.size (Nat.le_refl _)
  have hbn : Below w3.heap.size w3 (w3.alloc (.cells #[] 30)) := (Below.refl _ _).alloc (Nat.le_refl _) _
  go_loopw [9, 48] (fun v i wr => ∃ (k : Nat) (ms : List RowG), k ≤ n ∧ i = .int .i64 (k : Int) ∧ Own2 wr w3.heap.size v ms ∧ datG ms = (zeroM D).take k ∧ Below w3.heap.size w3 wr) (fun _ i _ => n - (intOf i).toNat)
  case atStart => exact ⟨0, [], Nat.zero_le _, rfl, hnil, rfl, hbn⟩
  case round =>
    clear hnil hbn
    obtain ⟨k, ms, hk, rfl, hms, hdm, hb⟩ := hrel
    obtain ⟨w4, rfl⟩ : ∃ w4 : World, w4 = wr := ⟨_, rfl⟩
    have hz4 := hb.size
    have m0 := (hb.cell (p := ⟨w.heap.size, 0, none⟩) hz3).trans e0
    have m1 := (hb.cell (p := ⟨w.heap.size, 1, none⟩) hz3).trans e1
    by_cases hlt : k < n
    · have hky : k < ys.length := by omega
      obtain ⟨b1, o1, rfl, hbb1, cr⟩ := (HX3.out.1.below hb).get k hky
      have hlen := HR.out (ys[k]'hky) (List.getElem_mem _)
      have hd1 : D.getD k [] = (ys[k]'hky).2.2 := by rw [← hd]; simp [dat, List.getD_eq_getElem?_getD, hky]
      have hzt := zeroM_take (D := D) (k := k) (by omega)
      rw [hd1] at hzt
      obtain ⟨⟨ra, rc, rl⟩, hrr⟩ : ∃ x, ys[k]'hky = x := ⟨_, rfl⟩
      rw [hrr] at cr hlen hzt
      simp only [rowV] at cr hlen hzt
      obtain ⟨ln, hln⟩ : ∃ ln, rl.length = ln := ⟨_, rfl⟩
      rw [hln] at cr hlen hzt
      have hmk := fun W : World => run_mk (P := Try.prog) Try.underlying30 infoFloat32 rfl (by decide) ln (by omega) .i64 .i64 W
      have hml : ms.length = k := by
        have := congrArg List.length hdm
        simp [datG, zeroM] at this
        omega
      have hinr := (inR_made w4 w3.heap.size ln hz4).grown (World.grownBy_alloc _ (.cells #[.slice (some ⟨w4.heap.size, 0, none⟩) ln ln] 30) none)
      have hms2 := (hms.below ((Below.refl w4.heap.size w4).alloc (Nat.le_refl _) (.cells (zeroRow (.float .f32 0) ln) 46)))
      have hms3 := hms2.below ((Below.refl _ _).alloc (Nat.le_refl _) (.cells #[.slice (some ⟨w4.heap.size, 0, none⟩) ln ln] 30))
      have hlen2 : (ms.map rowGV).length + 1 ≤ 1099511627776 := by rw [List.length_map, hml]; exact Nat.le_trans (Nat.succ_le_succ (Nat.le_trans hk hn)) (by decide)
      have HIN2 := Lib.hid hinr
      have HM3 := Lib.hid hms3
      have HZT := Lib.hid hzt
      have HDM := Lib.hid hdm
      clear hinr hms hms2 hms3 hzt hdm hd1 hrr hln
      go_wp2_with (at_builtin; go_must (refine appO Try.underlying58 infoF32S rfl (by decide) rfl _ _ rfl _ _ _ rfl HM3.out.1 _ _ (.slice (some ⟨w4.heap.size, 0, none⟩) ln ln) rfl (cell_new2 _ _ _ _) rfl hlen2 (by simp; omega) ?_); intro v' w5 ho5 hg5)
      have hrv : Value.slice (some ⟨w4.heap.size, 0, none⟩) ln ln = rowGV (some ⟨w4.heap.size, 0, none⟩, ln, List.replicate ln 0) := by simp [rowGV]
      rw [hrv] at ho5
      have hap := HM3.out.app HIN2.out ho5 hg5
      have hb5 : Below w3.heap.size w3 w5 := ((hb.alloc hz4 _).alloc (by simp; omega) _).grown hg5 (by simp; omega) (fun k hk => (World.ownsRow.lt HM3.out.1 k hk).1)
      have HAP := Lib.hid hap
      have HB5 := Lib.hid hb5
      clear hap hb5 ho5 hg5
      go_roundw
      case rel =>
        refine ⟨k + 1, _, hlt, by go_num, HAP.out, ?_, HB5.out⟩
        rw [Own2.datG_snoc, HDM.out, HZT.out]
      case measure => simp [intOf]; omega
    · have hkn : k = n := by omega
      subst hkn
      have hzl : (zeroM D).length = k := by simp [zeroM, hdl]
      rw [List.take_of_length_le (Nat.le_of_eq hzl)] at hdm
      have HM4 := Lib.hid hms
      have HDM := Lib.hid hdm
      have HB4 := Lib.hid hb
      have HITL := Lib.hid (iterM_low (D := D) (soft := soft) (n := k) (a := 10) hdl (Nat.le_refl _) HSS.out HO.out)
      have hhl : (hardL soft).length = ns := by simp [hardL, hls]
      have hbk : ∀ t, (bitsK D soft k t).length = ns := by
        intro t
        cases t with
        | zero => exact hhl
        | succ t => simp [bitsK, bitsM, hls]
      have HBK := Lib.hid hbk
      have HS4 := Lib.hid ((HS3.out.below hb).more hz4)
      clear hms hdm hzl hbk m0 m1
      go_wp2_with fail
      refine (spec_l07Hard_c w4 As ns caps soft hls (by omega) HS4.out).mono ?_
      rintro e w5 ⟨v5, rfl, ho5, hb5⟩
      rw [hardL_eq] at ho5
      obtain ⟨S3, k3, rfl, hp5⟩ := ho5.opn
      rw [hhl] at hp5 ⊢
      obtain ⟨g, q5, hv5, hbg, hgs⟩ := hp5.form (by omega)
      injection hv5 with hv1 hv2 hv4
      subst hv1
      clear hv2 hv4 ho5 HS4
      have hz5 := hb5.size
      have hb35 : Below w3.heap.size w3 w5 := hb.trans (hb5.mono hz4)
      have hms5 := HM4.out.below hb5
      have hp5' := own_base hp5 hz4
      have hbg3 : w3.heap.size ≤ g := Nat.le_trans hz4 hbg
      have HM5 := Lib.hid hms5
      have HP5 := Lib.hid hp5'
      have HB5 := Lib.hid hb35
      clear hb hb5 hb35 hms5 hp5 hp5' HM4 HB4 hz5 hz4 hbg
      go_wp2_with fail
      go_loopw [9, 12] (fun v i wr => ∃ (t : Nat) (ms : List RowG), t ≤ K ∧ i = .int .i64 (t : Int) ∧ Own2 wr w3.heap.size v ms ∧ datG ms = iterM D soft k t ∧ wr.ownsRow w3.heap.size 4 1 (.slice (some ⟨g, 0, none⟩) ns k3) ns ((bitsK D soft k t).map Value.bool) ∧ (∀ j, j < t → memberB D (bitsK D soft k j) = false) ∧ Below w3.heap.size w3 wr) (fun _ i _ => K - (intOf i).toNat)
      case atStart => exact ⟨0, ms, Nat.zero_le _, rfl, HM5.out, HDM.out, HP5.out, fun j hj => by omega, HB5.out⟩
      case round =>
        clear HM5 HDM HP5 HB5
        obtain ⟨t, ms2, ht, rfl, hms, hdm, hp, hnm, hb⟩ := hrel
        obtain ⟨w6, rfl⟩ : ∃ w6 : World, w6 = wr := ⟨_, rfl⟩
        have hz6 := hb.size
        have f0 := (hb.cell (p := ⟨w.heap.size, 0, none⟩) hz3).trans e0
        have f1 := (hb.cell (p := ⟨w.heap.size, 1, none⟩) hz3).trans e1
        have HX6 := Lib.hid ((HX3.out.below hb).more hz6)
        have HS6 := Lib.hid ((HS3.out.below hb).more hz6)
        have hMC := spec_l07Member_c w6 w.heap.size w6.heap.size w6.heap.size A k cap ys D hd f1 hl (by omega) HR2.out HX6.out (some ⟨g, 0, none⟩) ns k3 (bitsK D soft k t) (HBK.out t) (by omega) (sl_of_own hp) HIN.out
        have HMC := Lib.hid hMC
        have HP := Lib.hid hp
        have HB6 := Lib.hid hb
        have HBW := Lib.hid (show Below w.heap.size w w6 from HB3.out.trans (hb.mono (Nat.le_of_lt hz3)))
        have HFIN := Lib.hid (show Ow w6 w.heap.size 4 (.slice (some ⟨g, 0, none⟩) ns k3) ((bitsK D soft k t).map Value.bool) by
          unfold Ow
          rw [List.length_map, HBK.out t]
          exact own_base hp (Nat.le_of_lt hz3))
        have hw6 : w.heap.size < w6.heap.size := by omega
        clear hMC hp hb
        cases hmem : memberB D (bitsK D soft k t)
        · by_cases hlt : t < K
          · have hte : ((t : Int) == (K : Int)) = false := by simp; omega
            have hmulK : (2 * k + 1) * t ≤ (2 * k + 1) * K := Nat.mul_le_mul_left _ ht
            have hbd := HBD.out
            have hlowT := HITL.out t (by omega)
            obtain ⟨a, ha⟩ : ∃ a, 10 + (2 * k + 1) * t = a := ⟨_, rfl⟩
            have ha10 : 10 ≤ a := by omega
            have ha118 : a + 2 * k ≤ 118 := by omega
            rw [ha] at hlowT
            obtain ⟨M, hM⟩ : ∃ M, iterM D soft k t = M := ⟨_, rfl⟩
            have hnx : iterM D soft k (t + 1) = nxtM D soft k M := by rw [← hM]; rfl
            rw [hM] at hlowT hdm
            have hm2l : ms2.length = k := by
              have := congrArg List.length hdm
              rw [hlowT.1] at this
              simpa [datG] using this
            obtain ⟨Am, capm, rfl, hsg⟩ := hms.sl
            rw [hm2l]
            have hsh : ∀ r (h1 : r < ms2.length) (h2 : r < ys.length), ms2[r].2.2.length = ys[r].2.2.length := by
              intro r h1 h2
              have h3 := (hlowT.2 r (by omega)).1
              rw [← hdm, ← hd] at h3
              simpa [datG, dat, List.getD_eq_getElem?_getD, h1, h2] using h3
            have hT : ∀ W, Below w6.heap.size w6 W → ∀ (bit : Nat) (wo : Int), bit < ns → Calls Try.prog 35 #[.pointer (some ⟨w.heap.size, 0, none⟩), .slice As ns caps, .slice Am k capm, .int .i64 wo, .int .i64 (bit : Int)] W fun e w' => e = .returned (.float .f32 (toldW D M (soft.getD bit 0) bit wo k)) ∧ ∃ q, w' = W.drewN q := by
              intro W hW bit wo h1
              have h := spec_l07To_c W w.heap.size W.heap.size A As Am k cap ns caps k capm a bit ys ms2 soft wo ((hW.cell (p := ⟨w.heap.size, 1, none⟩) hw6).trans f1) hl (by omega) HR.out ((HX6.out.below hW).more hW.size) hls ((HS6.out.below hW).more hW.size) hm2l rfl (⟨(hsg.below hW).1.more hW.size, fun r hr => ((hsg.below hW).2 r hr).more hW.size⟩) hsh h1 (by omega) ((HSS.out bit).mono ha10) (by
                rw [hd, hdm]
                exact fun r hr => (hlowT.2 r hr).2) (by rw [hd]; exact HO.out)
              rw [hd, hdm] at h
              exact h
            have HT := Lib.hid hT
            have HLT := Lib.hid hlowT
            have HNX := Lib.hid hnx
            have HME := Lib.hid hmem
            have HNM := Lib.hid hnm
            clear hT hlowT hnx hmem hnm hbd hmulK hM hsh hms hsg hdm HFIN
            go_wp2_with (go_at_call 27; refine HMC.out.mono ?_; rintro e w' ⟨rfl, rfl⟩; rw [HME.out])
            have hnil := Own2.nil w6 w6.heap.size (Nat.le_refl _)
            have hbn : Below w6.heap.size w6 (w6.alloc (.cells #[] 30)) := (Below.refl _ _).alloc (Nat.le_refl _) _
            have HE0 := Lib.hid e0
            have HE1 := Lib.hid e1
            clear e0 e1
            go_loopw [13, 77] (fun v i wr => ∃ (r : Nat) (ms3 : List RowG), r ≤ k ∧ i = .int .i64 (r : Int) ∧ Own2 wr w6.heap.size v ms3 ∧ datG ms3 = (nxtM D soft k M).take r ∧ Below w6.heap.size w6 wr) (fun _ i _ => k - (intOf i).toNat)
            case atStart => exact ⟨0, [], Nat.zero_le _, rfl, hnil, rfl, hbn⟩
            case round =>
              clear hnil hbn
              obtain ⟨r, ms3, hrk, rfl, hms3, hdm3, hb7⟩ := hrel
              obtain ⟨w7, rfl⟩ : ∃ w7 : World, w7 = wr := ⟨_, rfl⟩
              have hz7 := hb7.size
              have k0 := (hb7.cell (p := ⟨w.heap.size, 0, none⟩) hw6).trans f0
              have k1 := (hb7.cell (p := ⟨w.heap.size, 1, none⟩) hw6).trans f1
              have hw7 : w.heap.size < w7.heap.size := by omega
              by_cases hlr : r < k
              · have hry : r < ys.length := by omega
                obtain ⟨b1, o1, rfl, hbb1, cr⟩ := (HX6.out.1.below hb7).get r hry
                have hrow := (HX6.out.2 (ys[r]'hry) (List.getElem_mem _)).below hb7
                have hlen := HR.out (ys[r]'hry) (List.getElem_mem _)
                have hd1 : D.getD r [] = (ys[r]'hry).2.2 := by rw [← hd]; simp [dat, List.getD_eq_getElem?_getD, hry]
                have hDm : (ys[r]'hry).2.2 ∈ D := by rw [← hd]; exact List.mem_map.2 ⟨_, List.getElem_mem hry, rfl⟩
                have hbits := HIN.out _ hDm
                have hl1 := vg_one HV.out _ hDm
                obtain ⟨⟨ra, rc, rl⟩, hrr⟩ : ∃ x, ys[r]'hry = x := ⟨_, rfl⟩
                rw [hrr] at cr hrow hlen hd1 hbits hl1
                simp only [rowV] at cr hrow hlen hd1 hbits hl1
                have htl : toL D soft k M r = rl.map fun bit => toldW D M (soft.getD bit.toNat 0) bit r k := by unfold toL; rw [hd1]
                have hnr : nxtRow D soft k M r = (List.range rl.length).map fun q => ansW (toL D soft k M r) q := by unfold nxtRow; rw [hd1]
                obtain ⟨T, hT2⟩ : ∃ T, toL D soft k M r = T := ⟨_, rfl⟩
                rw [hT2] at htl hnr
                obtain ⟨ln, hln⟩ : ∃ ln, rl.length = ln := ⟨_, rfl⟩
                rw [hln] at cr hlen hnr hl1
                have hTlen : T.length = ln := by rw [htl, List.length_map, hln]
                have hTlow : ∀ x ∈ T, Low (a + 2 * k) x := by
                  intro x hx
                  rw [htl] at hx
                  obtain ⟨bit, _, rfl⟩ := List.mem_map.1 hx
                  exact toldW_low (by omega) ((HSS.out _).mono ha10) (fun r hr => (HLT.out.2 r hr).2) HO.out k (Nat.le_refl _)
                have HROW := Lib.hid hrow
                have HBITS := Lib.hid hbits
                have HTL := Lib.hid htl
                have HTW := Lib.hid hTlow
                have HNR := Lib.hid hnr
                have HLN := Lib.hid hln
                have HB7 := Lib.hid hb7
                have HM3' := Lib.hid hms3
                have HDM3 := Lib.hid hdm3
                have hln32 : ln ≤ 32 := by omega
                have hr32 : r ≤ 32 := by omega
                have hbb7 : b1 < w7.heap.size := by omega
                clear hrow hbits htl hnr hln hms3 hdm3 hd1 hDm hrr hb7 hT2 hlen hTlow
                go_wp2_with fail
                have ho0 := own_empty w7 w7.heap.size 46 (Nat.le_refl _)
                have hbn : Below w7.heap.size w7 (w7.alloc (.cells #[] 46)) := (Below.refl _ _).alloc (Nat.le_refl _) _
                go_loopw [15, 87] (fun v i wr => ∃ q : Nat, q ≤ ln ∧ i = .int .i64 (q : Int) ∧ Ow wr w7.heap.size 46 v (((List.range q).map (ansW T)).map (Value.float .f32)) ∧ Below w7.heap.size w7 wr) (fun _ i _ => ln - (intOf i).toNat)
                case atStart => exact ⟨0, Nat.zero_le _, rfl, ho0, hbn⟩
                case round =>
                  clear ho0 hbn
                  obtain ⟨q, hq, rfl, ho8, hb8⟩ := hrel
                  obtain ⟨w8, rfl⟩ : ∃ w8 : World, w8 = wr := ⟨_, rfl⟩
                  have hz8 := hb8.size
                  have m0 := (hb8.cell (p := ⟨w.heap.size, 0, none⟩) hw7).trans k0
                  have m1 := (hb8.cell (p := ⟨w.heap.size, 1, none⟩) hw7).trans k1
                  have crn := (hb8.cell (p := ⟨b1, o1 + r, none⟩) (by simp only []; omega)).trans cr
                  by_cases hlq : q < ln
                  · have hbb8 : b1 < w8.heap.size := by omega
                    have hw8 : w.heap.size < w8.heap.size := by omega
                    have HB8 := Lib.hid hb8
                    have HO8 := Lib.hid ho8
                    clear hb8 ho8
                    go_wp2_with fail
                    go_loopw [17, 18, 19, 96] (fun l o s i wr => ∃ j : Nat, j ≤ ln ∧ i = .int .i64 (j : Int) ∧ l = .float .f32 ((ansSt T q j).1.getD 1148846080) ∧ o = .bool (ansSt T q j).2 ∧ s = .bool (ansSt T q j).1.isSome ∧ ∃ d, wr = w8.drewN d) (fun _ _ _ i _ => ln - (intOf i).toNat)
                    case atStart => exact ⟨0, Nat.zero_le _, rfl, rfl, rfl, rfl, 0, rfl⟩
                    case round =>
                      obtain ⟨j, hj, rfl, rfl, rfl, rfl, d, rfl⟩ := hrel
                      by_cases hlj : j < ln
                      · have hql : j < rl.length := by rw [HLN.out]; exact hlj
                        obtain ⟨b2, o2, rfl, hbb2, cq⟩ := (HROW.out.below (HB8.out.mono hz7)).get j hql
                        have hbq := HBITS.out _ (List.getElem_mem hql)
                        obtain ⟨bit, hbit⟩ : ∃ bit : Nat, rl[j]'hql = (bit : Int) := ⟨(rl[j]'hql).toNat, by omega⟩
                        have hTl : j < T.length := by omega
                        have hTj : T.getD j 0 = toldW D M (soft.getD bit 0) bit r k := by
                          rw [List.getD_eq_getElem?_getD, List.getElem?_eq_getElem hTl]
                          show T[j] = _
                          simp only [HTL.out, List.getElem_map, hbit, Int.toNat_natCast]
                        rw [hbit] at cq hbq
                        have hB68 : Below w6.heap.size w6 (w8.drewN d) := below_drewN (HB7.out.trans (HB8.out.mono hz7)) d
                        have hTC := HT.out (w8.drewN d) hB68 bit (r : Int) (by omega)
                        obtain ⟨x, hx⟩ : ∃ x, toldW D M (soft.getD bit 0) bit r k = x := ⟨_, rfl⟩
                        rw [hx] at hTj hTC
                        have HTC := Lib.hid hTC
                        clear hTC hB68 hbit hbq hx
                        by_cases hjq : j = q
                        · subst hjq
                          have hst := ansSt_skip T j
                          have he : ((j : Int) == (j : Int)) = true := by simp
                          have HST := Lib.hid hst
                          obtain ⟨st, hs⟩ : ∃ st, ansSt T j j = st := ⟨_, rfl⟩
                          have HSA := Lib.hid hs
                          rw [hs]
                          clear hst hs hTj
                          go_wp2_with fail
                          go_roundw
                          case rel => exact ⟨j + 1, hlj, by go_num, by rw [HST.out, HSA.out], by rw [HST.out, HSA.out], by rw [HST.out, HSA.out], d, rfl⟩
                          case measure => simp [intOf]; omega
                        · have he : ((j : Int) == (q : Int)) = false := by simp; omega
                          have hnone := ansSt_none (xs := T) hjq
                          have hsome := fun z => ansSt_some (xs := T) (z := z) hjq
                          rw [hTj] at hnone hsome
                          obtain ⟨c, hc⟩ : ∃ c, (FloatKind.f32.format.order x 0 == some Ordering.gt) = c := ⟨_, rfl⟩
                          rw [hc] at hnone hsome
                          obtain ⟨n0, hn0⟩ : ∃ n0, (FloatKind.f32.format.order x 0 == some Ordering.lt) = n0 := ⟨_, rfl⟩
                          have hab : absW x = if n0 then Op.negFloat .f32 x else x := by unfold absW; rw [hn0]
                          obtain ⟨o, dd, hs⟩ : ∃ o dd, ansSt T q j = (o, dd) := ⟨_, _, rfl⟩
                          rw [hs] at hnone hsome ⊢
                          cases o with
                          | none =>
                            have hst := hnone rfl
                            rw [hab] at hst
                            have HST := Lib.hid hst
                            clear hnone hsome hst hab hs hTj
                            cases c <;> cases dd <;> cases n0
                            all_goals
                              go_wp2_with (go_at_call 35; refine HTC.out.mono ?_; rintro e w' ⟨rfl, d2, rfl⟩)
                              go_roundw
                              case rel => exact ⟨j + 1, hlj, by go_num, by rw [HST.out]; rfl, by rw [HST.out]; rfl, by rw [HST.out]; rfl, _, rfl⟩
                              case measure => simp [intOf]; omega
                          | some z =>
                            have hst := hsome z rfl
                            obtain ⟨l, hll⟩ : ∃ l, (FloatKind.f32.format.order (absW x) z == some Ordering.lt) = l := ⟨_, rfl⟩
                            rw [hll] at hst
                            rw [hab] at hst hll
                            have HST := Lib.hid hst
                            clear hnone hsome hst hab hs hTj
                            cases c <;> cases dd <;> cases n0 <;> cases l
                            all_goals
                              simp only [if_true, if_false, Bool.false_eq_true] at hll
                              go_wp2_with (go_at_call 35; refine HTC.out.mono ?_; rintro e w' ⟨rfl, d2, rfl⟩)
                              go_roundw
                              case rel => exact ⟨j + 1, hlj, by go_num, by rw [HST.out]; rfl, by rw [HST.out]; rfl, by rw [HST.out]; rfl, _, rfl⟩
                              case measure => simp [intOf]; omega
                      · have hjn : j = ln := by omega
                        subst hjn
                        have hans : ansW T q = if (ansSt T q j).2 then vop .mul 1061158912 ((ansSt T q j).1.getD 1148846080) else Op.negFloat .f32 (vop .mul 1061158912 ((ansSt T q j).1.getD 1148846080)) := by unfold ansW; rw [hTlen]
                        have hzl := ansSt_low HTW.out q j (by omega)
                        obtain ⟨o, dd, hs⟩ : ∃ o dd, ansSt T q j = (o, dd) := ⟨_, _, rfl⟩
                        rw [hs] at hans hzl ⊢
                        have hlow2 : Low (a + 2 * k) (o.getD 1148846080) := by
                          cases o with
                          | none => exact Low.mono (a := 10) (by unfold Low; decide) (by omega)
                          | some z => exact hzl z rfl
                        obtain ⟨rr, m1', _⟩ := mul_low (by omega) hlow2
                        have er : vop .mul 1061158912 (o.getD 1148846080) = rr := by unfold vop; rw [m1']; rfl
                        rw [er] at hans
                        dsimp only at hans ⊢
                        have hf1 := fun t d => (show fres .mul .f32 1061158912 (o.getD 1148846080) t d = rr by simp [fres, m1'])
                        have hf2 : fdr .mul .f32 1061158912 (o.getD 1148846080) = 0 := by simp [fdr, m1']
                        obtain ⟨lw, hlw⟩ : ∃ lw, o.getD 1148846080 = lw := ⟨_, rfl⟩
                        rw [hlw] at hf1 hf2 ⊢
                        have ho9 := HO8.out
                        have hrg : (List.range (q + 1)).map (ansW T) = (List.range q).map (ansW T) ++ [ansW T q] := by simp [List.range_succ]
                        have hlen9 : (((List.range q).map (ansW T)).map (Value.float .f32)).length + 1 ≤ 1099511627776 := by rw [List.length_map, List.length_map, List.length_range]; omega
                        have HRG := Lib.hid hrg
                        have HANS := Lib.hid hans
                        clear hans hs hzl hlow2 m1' er hlw hrg
                        cases dd
                        all_goals
                          go_wp2_with (at_builtin; go_must (refine app1 Try.underlying30 infoFloat32 rfl (by decide) rfl _ _ rfl _ _ _ rfl (own_dalloc' ho9 _) _ _ _ rfl (cell_new1 _ _ _) rfl hlen9 (by simp; omega) ?_); intro v' w11 ho11 hb11)
                          go_roundw
                          case rel =>
                            refine ⟨q + 1, hlq, by go_num, ?_, ((below_drewN HB8.out _).alloc hz8 _).trans hb11⟩
                            rw [HRG.out, List.map_append, HANS.out]
                            exact ho11
                          case measure => simp [intOf]; omega
                  · have hqln : q = ln := by omega
                    subst hqln
                    obtain ⟨bf, cf, rfl, hinr⟩ := InR.of_own ho8 (by rw [List.length_map, List.length_range]; exact hl1)
                    have hfl : ((List.range q).map (ansW T)).length = q := by rw [List.length_map, List.length_range]
                    rw [hfl]
                    have hm9 := HM3'.out.below hb8
                    have hal := (Below.refl w8.heap.size w8).alloc (Nat.le_refl _) (.cells #[.slice (some ⟨bf, 0, none⟩) q cf] 30)
                    have hm10 := hm9.below hal
                    have hin10 := (hinr.below hal).base hz7
                    have hml3 : ms3.length = r := by
                      have := congrArg List.length HDM3.out
                      rw [List.length_take] at this
                      simp [datG, nxtM] at this
                      omega
                    have hlen3 : (ms3.map rowGV).length + 1 ≤ 1099511627776 := by rw [List.length_map, hml3]; omega
                    have hB69 : Below w6.heap.size w6 w8 := HB7.out.trans (hb8.mono hz7)
                    have hdn : datG (ms3 ++ [(some ⟨bf, 0, none⟩, cf, (List.range q).map (ansW T))]) = (nxtM D soft k M).take (r + 1) := by
                      rw [Own2.datG_snoc, HDM3.out, nxtM_take hlr, HNR.out]
                    have HM10 := Lib.hid hm10
                    have HIN10 := Lib.hid hin10
                    have HB69 := Lib.hid hB69
                    have HDN := Lib.hid hdn
                    have hz69 := hB69.size
                    clear hm9 hm10 hin10 hinr hal hB69 hdn ho8 hb8
                    go_wp2_with (at_builtin; go_must (refine appO Try.underlying58 infoF32S rfl (by decide) rfl _ _ rfl _ _ _ rfl HM10.out.1 _ _ (.slice (some ⟨bf, 0, none⟩) q cf) rfl (cell_new1 _ _ _) rfl hlen3 (by simp; omega) ?_); intro v' w10 ho10 hg10)
                    have hrv : Value.slice (some ⟨bf, 0, none⟩) q cf = rowGV (some ⟨bf, 0, none⟩, cf, (List.range q).map (ansW T)) := by unfold rowGV; rw [hfl]
                    rw [hrv] at ho10
                    have HAP := Lib.hid (HM10.out.app HIN10.out ho10 hg10)
                    have HB610 := Lib.hid ((HB69.out.alloc hz69 (.cells #[.slice (some ⟨bf, 0, none⟩) q cf] 30)).grown hg10 (by simp; omega) (fun j hj => (World.ownsRow.lt HM10.out.1 j hj).1))
                    clear ho10 hg10 hrv
                    go_roundw
                    case rel => exact ⟨r + 1, _, hlr, by go_num, HAP.out, HDN.out, HB610.out⟩
                    case measure => simp [intOf]; omega
              · have hrk2 : r = k := by omega
                subst hrk2
                have hnl : (nxtM D soft r M).length = r := by simp [nxtM]
                rw [List.take_of_length_le (Nat.le_of_eq hnl)] at hdm3
                have hlow1 := HITL.out (t + 1) (by
                  have h1 : (2 * r + 1) * (t + 1) ≤ (2 * r + 1) * K := Nat.mul_le_mul_left _ (show t + 1 ≤ K by omega)
                  have h2 := HBD.out
                  omega)
                have ha1 : 10 ≤ 10 + (2 * r + 1) * (t + 1) := by omega
                have ha2 : 10 + (2 * r + 1) * (t + 1) + 2 * r ≤ 118 := by
                  have h1 : (2 * r + 1) * (t + 1) ≤ (2 * r + 1) * K := Nat.mul_le_mul_left _ (show t + 1 ≤ K by omega)
                  have h2 := HBD.out
                  omega
                obtain ⟨a1, hae⟩ : ∃ a1, 10 + (2 * r + 1) * (t + 1) = a1 := ⟨_, rfl⟩
                rw [hae] at hlow1 ha1 ha2
                rw [HNX.out] at hlow1
                obtain ⟨M1, hM1⟩ : ∃ M1, nxtM D soft r M = M1 := ⟨_, rfl⟩
                rw [hM1] at hlow1 hdm3
                have hbk1 : bitsK D soft r (t + 1) = bitsM D soft r M1 := by rw [← hM1, ← HNX.out]; rfl
                have hit1 : iterM D soft r (t + 1) = M1 := by rw [HNX.out, hM1]
                have hml3 : ms3.length = r := by
                  have := congrArg List.length hdm3
                  rw [hlow1.1] at this
                  simpa [datG] using this
                have hsh1 : ∀ q (h1 : q < ms3.length) (h2 : q < ys.length), ms3[q].2.2.length = ys[q].2.2.length := by
                  intro q h1 h2
                  have h3 := (hlow1.2 q (by omega)).1
                  rw [← hdm3, ← hd] at h3
                  simpa [datG, dat, List.getD_eq_getElem?_getD, h1, h2] using h3
                obtain ⟨A9, cap9, hv9, _⟩ := hms3.sl
                subst hv9
                rw [hml3] at hms3 ⊢
                have hb37 : Below w3.heap.size w3 w7 := HB6.out.trans (hb7.mono hz6)
                have hz37 := hb37.size
                have hp7 := own_below HP.out hb7 (Nat.le_refl _)
                have hfinT : ∀ z, Low 120 (toldW D M1 (soft.getD z 0) z (-1) r) := fun z => (toldW_low (a := a1) (bit := (z : Int)) (without := -1) (by omega) ((HSS.out z).mono ha1) (fun q hq => (hlow1.2 q hq).2) HO.out r (Nat.le_refl _)).mono (by omega)
                have HFT := Lib.hid hfinT
                have HS1 := Lib.hid hsh1
                have HL1 := Lib.hid hlow1
                have HBK1 := Lib.hid hbk1
                have HIT1 := Lib.hid hit1
                have HDM3 := Lib.hid hdm3
                have HMS3 := Lib.hid (hms3.base hz6)
                clear hms3 hdm3 hlow1 hbk1 hit1 hsh1 hb7 hM1 hae hnl hfinT
                go_wp2_with fail
                go_loopw [150] (fun i wr => ∃ (z : Nat) (C : List Bool), z ≤ ns ∧ i = .int .i64 (z : Int) ∧ C.length = ns ∧ (∀ b : Nat, b < z → C.getD b false = gtB (toldW D M1 (soft.getD b 0) b (-1) r)) ∧ wr.ownsRow w3.heap.size 4 1 (.slice (some ⟨g, 0, none⟩) ns k3) ns (C.map Value.bool) ∧ Own2 wr w3.heap.size (.slice A9 r cap9) ms3 ∧ Below w3.heap.size w3 wr) (fun i _ => ns - (intOf i).toNat)
                case atStart => exact ⟨0, _, Nat.zero_le _, rfl, HBK.out t, fun b hb => by omega, hp7, HMS3.out, hb37⟩
                case round =>
                  clear hp7 hb37 k0 k1 f0 f1
                  obtain ⟨z, C, hz, rfl, hCl, hC, hp8, hm8, hb8⟩ := hrel
                  obtain ⟨w8, rfl⟩ : ∃ w8 : World, w8 = wr := ⟨_, rfl⟩
                  by_cases hlz : z < ns
                  · have hz8 := hb8.size
                    have m0 := (hb8.cell (p := ⟨w.heap.size, 0, none⟩) hz3).trans HE0.out
                    have m1 := (hb8.cell (p := ⟨w.heap.size, 1, none⟩) hz3).trans HE1.out
                    obtain ⟨A', cap', hv', hsg⟩ := hm8.sl
                    rw [hml3] at hv'
                    injection hv' with hv1 hv2 hv3
                    subst hv1
                    have hTC := spec_l07To_c w8 w.heap.size w8.heap.size A As A9 r cap ns caps r cap9 a1 z ys ms3 soft (-1) m1 hl (by omega) HR.out ((HX3.out.below hb8).more hz8) hls ((HS3.out.below hb8).more hz8) hml3 rfl hsg HS1.out hlz (by omega) ((HSS.out z).mono ha1) (by
                      rw [hd, HDM3.out]
                      exact fun q hq => (HL1.out.2 q hq).2) (by rw [hd]; exact HO.out)
                    rw [hd, HDM3.out] at hTC
                    have hft := HFT.out z
                    obtain ⟨x, hx⟩ : ∃ x, toldW D M1 (soft.getD z 0) z (-1) r = x := ⟨_, rfl⟩
                    rw [hx] at hTC hft
                    have hfin := low_fin (by omega) hft
                    have hup := set_upto (N := fun b : Nat => gtB (toldW D M1 (soft.getD b 0) b (-1) r)) hCl hlz hC
                    rw [hx] at hup
                    have HTC := Lib.hid hTC
                    have HUP := Lib.hid hup
                    have HFI := Lib.hid hfin
                    have HP8 := Lib.hid hp8
                    have HM8 := Lib.hid hm8
                    have HB8 := Lib.hid hb8
                    have hzC : z < (C.map Value.bool).length := by rw [List.length_map, hCl]; exact hlz
                    clear hTC hup hp8 hm8 hb8 hC hsg hx hft hfin
                    clear hv2 hv3 hgs ha1 ha2 ha10 ha118
                    go_wp2_with fail
                    refine HTC.out.mono ?_
                    rintro e w9 ⟨rfl, d9, ew9⟩
                    have HB9 := Lib.hid (show Below w8.heap.size w8 w9 by rw [ew9]; exact below_of_drewN _ _ _)
                    clear ew9
                    go_wp2_with fail
                    refine (spec_l01Finite_c w9 x).mono ?_
                    rintro e w10 ⟨rfl, d10, ew10⟩
                    rw [HFI.out]
                    have hb10 : Below w8.heap.size w8 w10 := by rw [ew10]; exact HB9.out.trans (below_of_drewN _ _ _)
                    clear ew10
                    have hz10 := hb10.size
                    have hp9 := own_below HP8.out hb10 (Nat.le_refl _)
                    have hc9 := World.ownsRow.cellAt hp9 z (by omega)
                    rw [List.getElem?_eq_getElem hzC] at hc9
                    have hf9 := World.ownsRow.frozenAt hp9 z
                    have HP9 := Lib.hid hp9
                    have HB10 := Lib.hid hb10
                    clear hp9 hb10
                    go_wp2_with fail
                    have hp9 := HP9.out
                    have hst := (World.ownsRow.stored hp9 z (.bool (gtB x))).1
                    rw [show (C.map Value.bool).set z (.bool (gtB x)) = (C.set z (gtB x)).map Value.bool by rw [List.map_set]] at hst
                    have hms9 := (HM8.out.below HB10.out).set hp9 z (.bool (gtB x))
                    have hb11 := below_put (HB8.out.trans (HB10.out.mono hz8)) hbg3 z (.bool (gtB x))
                    go_roundw
                    case rel => exact ⟨z + 1, C.set z (gtB x), hlz, by go_num, HUP.out.1, HUP.out.2, hst, hms9, hb11⟩
                    case measure => simp [intOf]; omega
                  · have hzn : z = ns := by omega
                    subst hzn
                    have hCe : C = bitsM D soft r M1 := by
                      apply List.ext_getElem (by rw [hCl]; simp [bitsM, hls])
                      intro b h1 h2
                      have h3 := hC b (by omega)
                      rw [List.getD_eq_getElem?_getD, List.getElem?_eq_getElem h1] at h3
                      have h4 : C[b] = gtB (toldW D M1 (soft.getD b 0) b (-1) r) := h3
                      rw [h4]
                      simp [bitsM]
                    have HP8 := Lib.hid hp8
                    have HM8 := Lib.hid hm8
                    have HB8 := Lib.hid hb8
                    clear hp8 hm8 hb8 hC
                    go_wp2_with fail
                    go_roundw
                    case rel =>
                      refine ⟨t + 1, ms3, by omega, by go_num, HM8.out, by rw [HDM3.out, HIT1.out], ?_, ?_, HB8.out⟩
                      · rw [HBK1.out, ← hCe]; exact HP8.out
                      · intro j hj
                        by_cases e : j = t
                        · rw [e]; exact HME.out
                        · exact HNM.out j (by omega)
                    case measure => simp [intOf]; omega
          · have htK : t = K := by omega
            subst htK
            have hla := leastAt_none (D := D) (soft := soft) (n := k) (most := t) (fun j hj => by
              by_cases e : j = t
              · rw [e]; exact hmem
              · exact hnm j (by omega))
            have HLA := Lib.hid hla
            have HME := Lib.hid hmem
            have d1 : ((t : Int) == (t : Int)) = true := by simp
            clear hla hmem hnm hms hdm
            go_wp2_with (go_at_call 27; refine HMC.out.mono ?_; rintro e w' ⟨rfl, rfl⟩; rw [HME.out])
            go_ret3
            refine ⟨HBW.out, ?_⟩
            rw [HLA.out]
            rfl
        · have hla := leastAt_some (D := D) (soft := soft) (n := k) (most := K) ht hmem hnm
          have HLA := Lib.hid hla
          have HME := Lib.hid hmem
          clear hla hmem hnm hms hdm
          go_wp2_with (go_at_call 27; refine HMC.out.mono ?_; rintro e w' ⟨rfl, rfl⟩; rw [HME.out])
          go_ret3
          refine ⟨HBW.out, ?_⟩
          rw [HLA.out]
          exact ⟨_, rfl, HFIN.out⟩

end Go.Proofs.Ytepdjehbgkfjhaa
