/-
  Contract: all ways, of the reference.
  Conditions: lengths at most 1048576.
-/
import Derived.Test.YtopeidmafalklaaYJB
import Derived.Deep.RegionLaw
import Derived.Deep.Cut
namespace Go.Proofs.Ytopeidmafalklaa
open Go.RowKit Go.Shelf


set_option maxRecDepth 100000 in
set_option maxHeartbeats 8000000 in
theorem spec_AllWays_c (w : World) (m : Int) (A : Option Addr) (k cap : Nat) (ms : List Int) (hl : ms.length = k) (hk : k ≤ 1048576) (hx : Sl w w.heap.size A (ms.map (Value.int .i64)))
    (A2 : Option Addr) (n2 cap2 : Nat) (xs : List Nat) (hl2 : xs.length = n2) (hn2 : n2 ≤ 1048576) (hy : Sl w w.heap.size A2 (xs.map (Value.float .f32))) (hA : RowA A2 n2 cap2) :
    Calls Try.prog 6 #[.agg #[.int .i64 m, .slice A k cap], .slice A2 n2 cap2] w (AllPost w m ms xs) := by
  obtain ⟨w1, e1⟩ : ∃ q : World, q = w.alloc (.cells #[.int .i64 m, .slice A k cap] 29) := ⟨_, rfl⟩
  have b1 : Below w.heap.size w w1 := by rw [e1]; exact (Below.refl _ _).alloc (Nat.le_refl _) _
  have z1 : w1.heap.size = w.heap.size + 1 := by rw [e1]; simp
  have hO : Obj w1 w.heap.size 29 #[.int .i64 m, .slice A k cap] := by rw [e1]; exact Obj.new _ _ _
  have C0 : w1.cell? ⟨w.heap.size, 0, none⟩ = some (.int .i64 m) := hO.cell 0
  have C1 : w1.cell? ⟨w.heap.size, 1, none⟩ = some (.slice A k cap) := hO.cell 1
  have HC := Lib.hid (spec_l07Coder_c w1 w.heap.size m w.heap.size A k cap ms C0 C1 hl hk (hx.below b1))
  have HS := Lib.hid (fun q : Nat => spec_l07Soft_c (w1.drewN q) w.heap.size A2 n2 cap2 xs hl2 ((hy.below b1).drewN q))
  have hcap : n2 ≤ cap2 := by
    rcases hA with ⟨_, h1, h2⟩ | ⟨_, _, h, _⟩
    · omega
    · exact h
  have HX := Lib.hid (hx.below b1)
  have HY := Lib.hid (hy.below b1)
  have HO := Lib.hid hO
  have HC0 := Lib.hid C0
  have HC1 := Lib.hid C1
  clear hx hy hO C0 C1
  cases hv : validCoderB m ms
  · have hbo : allOk m ms xs = false := allw_not (by unfold sentOk sentB; rw [hv]; rfl)
    rw [hv] at HC
    have HBO := Lib.hid hbo
    clear hv hbo
    go_enter Try.func6, Try.ntmps6
    go_wp2_with (rw [← e1]; clear e1)
    refine HC.out.mono ?_
    rintro e w2 ⟨rfl, q, rfl⟩
    go_wp2
    go_ret2
    exact all_fail HBO.out (below_drewN b1 q)
  · rw [hv] at HC
    obtain ⟨hm1, hm4, hk1, hk4, hr⟩ := vc_facts hv
    rw [hl] at hk1 hk4
    have HL := Lib.hid (fun q : Nat => spec_l07Long_c (w1.drewN q) w.heap.size m (by omega) hm4 A k cap hk1 hk4 HC0.out HC1.out A2 n2 cap2 hn2)
    cases hs : softB xs
    · have hbo : allOk m ms xs = false := allw_not (by unfold sentOk sentB; rw [hs, Bool.and_false]; rfl)
      rw [hs] at HS
      have HBO := Lib.hid hbo
      clear hv hbo hs
      go_enter Try.func6, Try.ntmps6
      go_wp2_with (rw [← e1]; clear e1)
      refine HC.out.mono ?_
      rintro e w2 ⟨rfl, q, rfl⟩
      go_wp2_with fail
      refine (HS.out q).mono ?_
      rintro e w3 ⟨rfl, q3, rfl⟩
      go_wp2
      go_ret2
      exact all_fail HBO.out (below_drewN b1 _)
    · rw [hs] at HS
      have hneg := long_neg hv hs
      rw [hl, hl2] at hneg
      cases ho : sentOk m ms xs
      · have hbo : allOk m ms xs = false := allw_not ho
        rw [ho] at hneg
        have HBO := Lib.hid hbo
        obtain ⟨z, hz⟩ : ∃ z, longV m k n2 = z := ⟨_, rfl⟩
        rw [hz] at HL hneg
        have hneg2 : decide (z < 0) = true := hneg
        clear hv hbo hs ho hneg hz
        go_enter Try.func6, Try.ntmps6
        go_wp2_with (rw [← e1]; clear e1)
        refine HC.out.mono ?_
        rintro e w2 ⟨rfl, q, rfl⟩
        go_wp2_with fail
        refine (HS.out q).mono ?_
        rintro e w3 ⟨rfl, q3, rfl⟩
        rw [World.drewN_drewN]
        go_wp2_with fail
        refine (HL.out _).mono ?_
        rintro e w4 ⟨rfl, q4, rfl⟩
        go_wp2
        go_ret2
        exact all_fail HBO.out (below_drewN b1 _)
      · obtain ⟨M, n, rfl, hM1, hM4, -, -, -, hn, hsn, hnn, hx160⟩ := sent_facts ho
        rw [hl, hl2] at hnn
        have hly := long_yes ho
        rw [hl, hl2, hsn] at hly
        rw [hly] at HL hneg
        have hneg2 : decide ((n : Int) < 0) = false := by rw [hneg, ho]; rfl
        have hno : outT M ms xs n n = none → allOk (M : Int) ms xs = false := fun h => all_none hsn h
        have hyes : ∀ l, outT M ms xs n n = some l → allOk (M : Int) ms xs = l.all finB ∧ (l.all finB = true → allL (M : Int) ms xs = l) := fun l h => all_some ho hsn h
        obtain ⟨S, hS⟩ : ∃ S : Nat, 2 ^ M = S := ⟨_, rfl⟩
        have hSI : (2 : Int) ^ M = (S : Int) := by rw [← hS]; push_cast; rfl
        have hS16 : S ≤ 16 := by rw [← hS]; exact Nat.pow_le_pow_right (n := 2) (by decide) hM4
        have hS1 : 1 ≤ S := by rw [← hS]; exact Nat.pow_pos (by decide)
        have hsh : wrap64 (2 ^ M) = (S : Int) := by rw [hSI]; exact IntWalk.wrap64_in _ (by omega)
        have hmk := fun W : World => run_mkSum S (Nat.le_trans hS16 (by decide)) .i64 .i64 W
        have HSS := Lib.hid hS
        have HSI := Lib.hid hSI
        have HSH := Lib.hid hsh
        have HNN := Lib.hid hnn
        have HNO := Lib.hid hno
        have HYES := Lib.hid hyes
        clear hv hs ho hneg hly hsn hno hyes hS hSI hsh hnn
        go_enter Try.func6, Try.ntmps6
        go_wp2_with (rw [← e1]; clear e1)
        refine HC.out.mono ?_
        rintro e w2 ⟨rfl, q, rfl⟩
        go_wp2_with fail
        refine (HS.out q).mono ?_
        rintro e w3 ⟨rfl, q3, rfl⟩
        rw [World.drewN_drewN]
        go_wp2_with fail
        refine (HL.out _).mono ?_
        rintro e w4 ⟨rfl, q4, rfl⟩
        rw [World.drewN_drewN]
        go_wp2_with fail
        refine (HL.out _).mono ?_
        rintro e w5 ⟨rfl, q5, rfl⟩
        rw [World.drewN_drewN]
        obtain ⟨w6, e6⟩ : ∃ q0 : World, q0 = w1.drewN (q + q3 + q4 + q5) := ⟨_, rfl⟩
        rw [← e6]
        have c0 : w6.cell? ⟨w.heap.size, 0, none⟩ = some (.int .i64 (M : Int)) := by rw [e6]; exact HC0.out
        have B6 : Below w.heap.size w w6 := by rw [e6]; exact below_drewN b1 _
        have O6 : Obj w6 w.heap.size 29 #[.int .i64 (M : Int), .slice A k cap] := by rw [e6]; exact HO.out
        have Y6 : Sl w6 w.heap.size A2 (xs.map (Value.float .f32)) := by rw [e6]; exact HY.out.drewN _
        have X6 : Sl w6 w.heap.size A (ms.map (Value.int .i64)) := by rw [e6]; exact HX.out.drewN _
        have z6 : w6.heap.size = w.heap.size + 1 := by rw [e6]; exact z1
        clear e6 HC HS HL HX HY HO HC0 HC1 b1 z1
        obtain ⟨w7, e7⟩ : ∃ q0 : World, q0 = (w6.alloc (.cells (madeCells #[Value.bool false, .float .f32 0] (S * 2)) 71)).alloc (.cells #[.slice (some ⟨w6.heap.size, 0, none⟩) S S] 68) := ⟨_, rfl⟩
        have hz6 : w.heap.size + 1 ≤ w6.heap.size := by omega
        have R7 : SRow 71 w7 w6.heap.size S (noneR S) := by rw [e7]; exact (SRow.new 71 w6 S).alloc _
        have Q7 : Ow w7 w6.heap.size 68 (.slice (some ⟨w6.heap.size + 1, 0, none⟩) 1 1) ([w6.heap.size].map (rV S)) := by
          have h : World.ownsRow ((w6.alloc (.cells (madeCells #[Value.bool false, .float .f32 0] (S * 2)) 71)).alloc (.cells #[.slice (some ⟨w6.heap.size, 0, none⟩) S S] 68)) w6.heap.size 68 1 (.slice (some ⟨(w6.alloc (.cells (madeCells #[Value.bool false, .float .f32 0] (S * 2)) 71)).heap.size, 0, none⟩) 1 1) 1 [.slice (some ⟨w6.heap.size, 0, none⟩) S S] :=
            World.ownsRow_lit _ #[.slice (some ⟨w6.heap.size, 0, none⟩) S S] 1 (by simp) (by simp [maxLen]) rfl
          rw [World.size_alloc] at h
          rw [e7]; exact h
        have B7 : Below w6.heap.size w6 w7 := by rw [e7]; exact ((Below.refl _ _).alloc (Nat.le_refl _) _).alloc (by simp) _
        have z7 : w7.heap.size = w6.heap.size + 1 + 1 := by rw [e7]; simp
        obtain ⟨f0, y0, d0, d1, d2⟩ := R7.cells (s := 0) (by omega)
        have u0 := R7.frz 0
        have u1 := R7.frz (0 * 2 + 1)
        rw [Nat.zero_mul] at d0 d1 u1
        have g0 : w7.cell? ⟨w6.heap.size + 1, 0, none⟩ = some (.slice (some ⟨w6.heap.size, 0, none⟩) S S) := (World.ownsRow.cellAt Q7 0 (by decide)).trans rfl
        have HR7 := Lib.hid R7
        have HQ7 := Lib.hid Q7
        have HB7 := Lib.hid B7
        have HO6 := Lib.hid O6
        have HX6 := Lib.hid X6
        have HY6 := Lib.hid Y6
        have HB6 := Lib.hid B6
        have HZ7 := Lib.hid z7
        clear R7 Q7 O6 z6 z7 B7 B6 X6 Y6
        go_wp2_with (first | rw [HSH.out] | (rw [← e7]; clear e7))
        clear hmk
        go_loopw [9, 10] (fun v9 i wr => ∃ t : Nat, t ≤ n + M ∧ i = .int .i64 t ∧ FwdRel w6 S (fwdT M ms xs n) (t + 1) v9 wr) (fun _ i _ => n + M - (intOf i).toNat)
        case atStart =>
          have hput := SRow.put HR7.out (to := 0) (by omega) true 0 (some (some 0)) (by unfold stO; rw [if_pos rfl, fl0])
          rw [Nat.zero_mul, Nat.zero_add] at hput
          have hb := Below.setCell (p := ⟨w6.heap.size, 1, none⟩) (Below.setCell (p := ⟨w6.heap.size, 0, none⟩) HB7.out (Nat.le_refl _) (.bool true)) (Nat.le_refl _) (.float .f32 0)
          refine ⟨0, Nat.zero_le _, rfl, [w6.heap.size], rfl, ⟨?_, fun i hi => ?_⟩, hb⟩
          · exact own_set_other (own_set_other HQ7.out (by simp) _) (by simp) _
          · obtain rfl : i = 0 := by simpa using hi
            refine ⟨Nat.le_refl _, ?_⟩
            show SRow _ _ w6.heap.size S (oneR (2 ^ M))
            rw [HSS.out]
            exact hput
        case round =>
          clear d2 d0 d1 u0 u1 g0 c0
          obtain ⟨t, ht, rfl, bs, hbl, hAR, hbr⟩ := hrel
          obtain ⟨wA, rfl⟩ : ∃ q : World, q = wr := ⟨_, rfl⟩
          have hbw6 := HB6.out
          have hzA := hbr.size
          by_cases hlt : t < n + M
          · have hltd : decide ((t : Int) < (n : Int) + (M : Int)) = true := decide_eq_true (by omega)
            have hget := hAR.get (i := t) (by omega)
            rw [hbl] at hget
            obtain ⟨g, cg, rfl, hg6, hgA, hgc⟩ := hget
            obtain ⟨_, hbT⟩ := hAR.2 t (by omega)
            obtain ⟨bt, ebt⟩ : ∃ b, bs.getD t 0 = b := ⟨_, rfl⟩
            obtain ⟨T, eT⟩ : ∃ T, fwdT M ms xs n t = T := ⟨_, rfl⟩
            obtain ⟨pt, ept⟩ : ∃ pt, partL k xs t = pt := ⟨_, rfl⟩
            obtain ⟨la, ela⟩ : ∃ la, decide (n ≤ t) = la := ⟨_, rfl⟩
            have htab : fwdT M ms xs n (t + 1) = fwdR M ms pt la T S := by rw [← HSS.out, ← ept, ← ela, ← eT, ← hl]; rfl
            rw [ebt] at hgc hbT
            rw [eT] at hbT
            have hbt := hbT.lt
            have htI : (t : Int) < (t : Int) + 1 := by omega
            have hlo3 : (t + 1) * k ≤ n2 := by rw [← HNN.out]; exact Nat.mul_le_mul_right k (by omega)
            have HHALF : Hid (∀ W, Below w6.heap.size w6 W → ∀ (s : Nat), s ≤ 15 → ∀ c : Bool, Calls Try.prog 39 #[.pointer (some ⟨w.heap.size, 0, none⟩), .slice A2 n2 cap2, .int .i64 (t : Int), .int .i64 (s : Int), .bool c] W fun e w' => ∃ v, e = .returned (.float .f32 v) ∧ fl .f32 v = halfO ms pt s c ∧ Below W.heap.size W w') :=
              Lib.hid fun W hW s hs c => by
                rw [← ept]
                have bw := HB6.out.trans (hW.mono HB6.out.size)
                exact spec_l07Half_c W w.heap.size A k cap ms hl hk1 hk4 hr (Nat.lt_of_lt_of_le hz6 hW.size) (((hW.cell (p := ⟨w.heap.size, 1, none⟩) hz6)).trans (HO6.out.cell 1)) ((HX6.out.below (hW.mono HB6.out.size)).more bw.size) A2 n2 cap2 xs hl2 ((HY6.out.below (hW.mono HB6.out.size)).more bw.size) hcap t hlo3 (by omega) s hs c
            have HBT := Lib.hid hbT
            have HGC := Lib.hid hgc
            have HAR := Lib.hid hAR
            have HTAB := Lib.hid htab
            have HLA := Lib.hid ela
            have HBS := Lib.hid ebt
            have HBL := Lib.hid hbl
            have R1 := SRow.new 71 wA S
            have HR1 := Lib.hid R1
            have hmk := fun W : World => run_mkSum S (Nat.le_trans hS16 (by decide)) .i64 .i64 W
            clear hAR hbT hgc htab ela ebt hbl R1 ept eT
            go_wp2
            clear hmk
            go_loopw [12] (fun i wr => ∃ s : Nat, s ≤ S ∧ i = .int .i64 s ∧ SRow 71 wr wA.heap.size S (fwdR M ms pt la T s) ∧ Below wA.heap.size wA wr) (fun i _ => S - (intOf i).toNat)
            case atStart =>
              refine ⟨0, Nat.zero_le _, rfl, ?_, (Below.refl _ _).alloc (Nat.le_refl _) _⟩
              show SRow _ _ _ _ (noneR (2 ^ M))
              rw [HSS.out]
              exact HR1.out
            case round =>
              obtain ⟨s, hs, rfl, hr0, hb⟩ := hrel
              obtain ⟨wC, rfl⟩ : ∃ q : World, q = wr := ⟨_, rfl⟩
              have HR0 := Lib.hid hr0
              have HB0 := Lib.hid hb
              clear hr0 hb
              by_cases hlt2 : s < S
              · obtain ⟨f2, y2, g0, g1, hg⟩ := HBT.out.cells hlt2
                have HTS := Lib.hid hg.symm
                have HY2 := Lib.hid g1
                have c0 := (HB0.out.cell (p := ⟨g, t, none⟩) hgA).trans HGC.out
                have c1 := (HB0.out.cell (p := ⟨bt, s * 2, none⟩) hbt).trans g0
                have HG0 := Lib.hid g0
                unfold rV at c0
                clear hg g0 g1
                cases f2
                · go_wp2
                  go_loopw [13] (fun j w1 => j = .int .i64 0 ∧ ∃ q, w1 = wC.drewN q) (fun _ _ => 0)
                  case atStart => exact ⟨rfl, 0, rfl⟩
                  case round =>
                    obtain ⟨rfl, q, rfl⟩ := hrel
                    go_wp2
                    go_roundw
                    case rel => exact ⟨s + 1, hlt2, by go_num, by rw [fwdR_not HTS.out]; exact HR0.out, below_drewN HB0.out _⟩
                    case measure => simp [intOf]; omega
                · go_wp2
                  go_loopw [13] (fun i wr => ∃ j : Nat, j ≤ 2 ∧ i = .int .i64 j ∧ SRow 71 wr wA.heap.size S (fbT M ms pt la T s j) ∧ Below wA.heap.size wA wr) (fun i _ => 2 - (intOf i).toNat)
                  case atStart => exact ⟨0, by omega, rfl, HR0.out, HB0.out⟩
                  case round =>
                    clear c0 c1 HR0 HB0
                    obtain ⟨j, hj, rfl, hr0, hbE⟩ := hrel
                    obtain ⟨wE, rfl⟩ : ∃ q : World, q = wr := ⟨_, rfl⟩
                    have HR := Lib.hid hr0
                    have hb6 : Below w6.heap.size w6 wE := hbr.trans (hbE.mono hzA)
                    have c0 := (hbE.cell (p := ⟨g, t, none⟩) hgA).trans HGC.out
                    have c1 := (hbE.cell (p := ⟨bt, s * 2, none⟩) hbt).trans HG0.out
                    unfold rV at c0
                    clear hr0
                    rcases (show j = 0 ∨ j = 1 ∨ j = 2 by omega) with rfl | rfl | rfl
                    · skip
                      obtain ⟨to, eto⟩ : ∃ to, toS M s false = to := ⟨_, rfl⟩
                      have hto : to < S := by rw [← eto, ← HSS.out]; exact toS_lt false
                      have htv : (2 * (s : Int) + bitI false) % 2 ^ M = (to : Int) := by rw [← eto]; exact toS_eq M s false
                      have HTV := Lib.hid htv
                      have HTO := Lib.hid eto
                      clear htv eto
                      have cd0 := (hb6.cell (p := ⟨w.heap.size, 0, none⟩) hz6).trans (HO6.out.cell 0)
                      go_wp2_with fail
                      refine (spec_l07Next_c wE w.heap.size M s false (by omega) (by omega) hM1 hM4 cd0).mono ?_
                      rintro e w' ⟨rfl, q1, rfl⟩
                      rw [HTV.out]
                      obtain ⟨wD, eD⟩ : ∃ W : World, W = wE.drewN q1 := ⟨_, rfl⟩
                      rw [← eD]
                      have rD : SRow 71 wD wA.heap.size S (fbT M ms pt la T s 0) := by rw [eD]; exact HR.out.drewN _
                      have bD : Below wA.heap.size wA wD := by rw [eD]; exact below_drewN hbE _
                      have b6D : Below w6.heap.size w6 wD := hbr.trans (bD.mono hzA)
                      have tD : SRow 71 wD bt S T := HBT.out.below bD hbt
                      obtain ⟨f1, y1, d0, d1, hd⟩ := rD.cells hto
                      have aD : wD.cell? ⟨g, t, none⟩ = some (rV S bt) := (bD.cell (p := ⟨g, t, none⟩) hgA).trans HGC.out
                      have hy2 : wD.cell? ⟨bt, s * 2 + 1, none⟩ = some (.float .f32 y2) := (bD.cell (p := ⟨bt, s * 2 + 1, none⟩) hbt).trans HY2.out
                      have HLD : Hid (∀ W, Below wD.heap.size wD W → W.cell? ⟨wA.heap.size, to * 2, none⟩ = some (.bool f1) ∧ W.cell? ⟨wA.heap.size, to * 2 + 1, none⟩ = some (.float .f32 y1) ∧ W.cell? ⟨g, t, none⟩ = some (.slice (some ⟨bt, 0, none⟩) S S) ∧ W.cell? ⟨bt, s * 2 + 1, none⟩ = some (.float .f32 y2)) :=
                        Lib.hid fun W hW => ⟨(hW.cell (p := ⟨wA.heap.size, to * 2, none⟩) rD.lt).trans d0, (hW.cell (p := ⟨wA.heap.size, to * 2 + 1, none⟩) rD.lt).trans d1, (hW.cell (p := ⟨g, t, none⟩) (Nat.lt_of_lt_of_le hgA bD.size)).trans aD, (hW.cell (p := ⟨bt, s * 2 + 1, none⟩) tD.lt).trans hy2⟩
                      have HHF : Hid (∀ W, Below wD.heap.size wD W → Calls Try.prog 39 #[.pointer (some ⟨w.heap.size, 0, none⟩), .slice A2 n2 cap2, .int .i64 (t : Int), .int .i64 (s : Int), .bool false] W fun e w' => ∃ v, e = .returned (.float .f32 v) ∧ fl .f32 v = halfO ms pt s false ∧ Below W.heap.size W w') :=
                        Lib.hid fun W hW => HHALF.out W (b6D.trans (hW.mono b6D.size)) s (by omega) false
                      clear d0 d1 hy2 aD cd0 eD
                      go_wp2_with fail
                      refine wp_region_B (RvS (halfO ms pt s false)) 23 (D := wD.heap.size) (w0 := wD) (by kernel_rfl) (by kernel_rfl) (Below.refl _ _) ?_
                      simp only [List.take_succ_cons, List.take_zero, List.drop_succ_cons, List.drop_zero]
                      iterate 19 (refine wpRel_step (fun K hK => ?_); go_simp; intro W hW; obtain ⟨q0, q1, q2, q3⟩ := HLD.out W hW; (try go_simp); (first | refine ⟨hW, hK _ ?_⟩ | refine hK _ ?_); clear q0 q1 q2 q3 hK K hW W)
                      refine wpRel_step (fun K hK => ?_)
                      go_simp
                      intro W hW
                      refine ⟨half_B (Nat.le_refl _) hW (HHF.out W hW), fun v hv => ?_⟩
                      obtain ⟨x3, rfl, hx3⟩ := rv_half hv
                      refine hK _ ?_
                      clear hK K hW W hv
                      refine wpRel_step (fun K hK => ?_)
                      go_simp
                      intro W hW
                      refine ⟨below_drewN hW _, hK _ ?_⟩
                      clear hK K
                      obtain ⟨z4, ez4⟩ : ∃ z, fres .add .f32 y2 x3 W.tape W.drawn = z := ⟨_, rfl⟩
                      have Hz4 : Hid (fl .f32 z4 = fop .add .f32 (fl .f32 y2) (fl .f32 x3)) := Lib.hid (by rw [← ez4]; exact fl_fres ..)
                      rw [ez4]
                      clear ez4 hW W
                      refine wpRel_step (fun K hK => ?_)
                      go_simp
                      intro W hW
                      refine ⟨sjoin_B (Nat.le_refl _) hW _ _ _, fun v hv => ?_⟩
                      obtain ⟨z5, rfl, hz5⟩ := rv_sjoin hv
                      refine hK _ ?_
                      clear hK K hW W hv
                      iterate 1 (refine wpRel_step (fun K hK => ?_); go_simp; intro W hW; obtain ⟨q0, q1, q2, q3⟩ := HLD.out W hW; (try go_simp); (first | refine ⟨hW, hK _ ?_⟩ | refine hK _ ?_); clear q0 q1 q2 q3 hK K hW W)
                      refine wpRel_nil ?_
                      intro W hW
                      have rW := rD.below hW rD.lt
                      obtain ⟨f3, y3, t0, t1, _⟩ := rW.cells hto
                      have u0 := rW.frz (to * 2)
                      have u1 := rW.frz (to * 2 + 1)
                      have HRW := Lib.hid rW
                      have HV : Hid (stO true z5 = joinS ((fbT M ms pt la T s 0).getD to none) (plusS (T.getD s none) (halfO ms pt s false))) := Lib.hid (by rw [hz5, Hz4.out, hx3, hd, HTS.out]; rfl)
                      have hbWW : Below wA.heap.size wA W := bD.trans (hW.mono bD.size)
                      clear rW hz5 hx3
                      go_wp2
                      go_roundw
                      case rel =>
                        refine ⟨0 + 1, by omega, by go_num, ?_, Below.setCell (p := ⟨wA.heap.size, to * 2 + 1, none⟩) (Below.setCell (p := ⟨wA.heap.size, to * 2, none⟩) hbWW (Nat.le_refl _) _) (Nat.le_refl _) _⟩
                        have h9 := fbT_step (M := M) (ms := ms) (part := pt) (last := la) (a := T) (s := s) false
                        rw [fwdE_yes (show (false && la) = false from rfl), HTO.out] at h9
                        have h8 := SRow.put HRW.out (to := to) hto true z5 _ HV.out
                        have e9 : fbT M ms pt la T s (0 + 1) = ((fbT M ms pt la T s 0).set to (joinS ((fbT M ms pt la T s 0).getD to none) (plusS (T.getD s none) (halfO ms pt s false)))) := h9
                        rw [e9]
                        exact h8
                      case measure => simp [intOf]
                    · cases la
                      · have hnt : ¬ n ≤ t := of_decide_eq_false HLA.out
                        obtain ⟨to, eto⟩ : ∃ to, toS M s true = to := ⟨_, rfl⟩
                        have hto : to < S := by rw [← eto, ← HSS.out]; exact toS_lt true
                        have htv : (2 * (s : Int) + bitI true) % 2 ^ M = (to : Int) := by rw [← eto]; exact toS_eq M s true
                        have HTV := Lib.hid htv
                        have HTO := Lib.hid eto
                        clear htv eto
                        have cd0 := (hb6.cell (p := ⟨w.heap.size, 0, none⟩) hz6).trans (HO6.out.cell 0)
                        go_wp2_with fail
                        refine (spec_l07Next_c wE w.heap.size M s true (by omega) (by omega) hM1 hM4 cd0).mono ?_
                        rintro e w' ⟨rfl, q1, rfl⟩
                        rw [HTV.out]
                        obtain ⟨wD, eD⟩ : ∃ W : World, W = wE.drewN q1 := ⟨_, rfl⟩
                        rw [← eD]
                        have rD : SRow 71 wD wA.heap.size S (fbT M ms pt false T s 1) := by rw [eD]; exact HR.out.drewN _
                        have bD : Below wA.heap.size wA wD := by rw [eD]; exact below_drewN hbE _
                        have b6D : Below w6.heap.size w6 wD := hbr.trans (bD.mono hzA)
                        have tD : SRow 71 wD bt S T := HBT.out.below bD hbt
                        obtain ⟨f1, y1, d0, d1, hd⟩ := rD.cells hto
                        have aD : wD.cell? ⟨g, t, none⟩ = some (rV S bt) := (bD.cell (p := ⟨g, t, none⟩) hgA).trans HGC.out
                        have hy2 : wD.cell? ⟨bt, s * 2 + 1, none⟩ = some (.float .f32 y2) := (bD.cell (p := ⟨bt, s * 2 + 1, none⟩) hbt).trans HY2.out
                        have HLD : Hid (∀ W, Below wD.heap.size wD W → W.cell? ⟨wA.heap.size, to * 2, none⟩ = some (.bool f1) ∧ W.cell? ⟨wA.heap.size, to * 2 + 1, none⟩ = some (.float .f32 y1) ∧ W.cell? ⟨g, t, none⟩ = some (.slice (some ⟨bt, 0, none⟩) S S) ∧ W.cell? ⟨bt, s * 2 + 1, none⟩ = some (.float .f32 y2)) :=
                          Lib.hid fun W hW => ⟨(hW.cell (p := ⟨wA.heap.size, to * 2, none⟩) rD.lt).trans d0, (hW.cell (p := ⟨wA.heap.size, to * 2 + 1, none⟩) rD.lt).trans d1, (hW.cell (p := ⟨g, t, none⟩) (Nat.lt_of_lt_of_le hgA bD.size)).trans aD, (hW.cell (p := ⟨bt, s * 2 + 1, none⟩) tD.lt).trans hy2⟩
                        have HHF : Hid (∀ W, Below wD.heap.size wD W → Calls Try.prog 39 #[.pointer (some ⟨w.heap.size, 0, none⟩), .slice A2 n2 cap2, .int .i64 (t : Int), .int .i64 (s : Int), .bool true] W fun e w' => ∃ v, e = .returned (.float .f32 v) ∧ fl .f32 v = halfO ms pt s true ∧ Below W.heap.size W w') :=
                          Lib.hid fun W hW => HHALF.out W (b6D.trans (hW.mono b6D.size)) s (by omega) true
                        clear d0 d1 hy2 aD cd0 eD
                        go_wp2_with fail
                        refine wp_region_B (RvS (halfO ms pt s true)) 23 (D := wD.heap.size) (w0 := wD) (by kernel_rfl) (by kernel_rfl) (Below.refl _ _) ?_
                        simp only [List.take_succ_cons, List.take_zero, List.drop_succ_cons, List.drop_zero]
                        iterate 19 (refine wpRel_step (fun K hK => ?_); go_simp; intro W hW; obtain ⟨q0, q1, q2, q3⟩ := HLD.out W hW; (try go_simp); (first | refine ⟨hW, hK _ ?_⟩ | refine hK _ ?_); clear q0 q1 q2 q3 hK K hW W)
                        refine wpRel_step (fun K hK => ?_)
                        go_simp
                        intro W hW
                        refine ⟨half_B (Nat.le_refl _) hW (HHF.out W hW), fun v hv => ?_⟩
                        obtain ⟨x3, rfl, hx3⟩ := rv_half hv
                        refine hK _ ?_
                        clear hK K hW W hv
                        refine wpRel_step (fun K hK => ?_)
                        go_simp
                        intro W hW
                        refine ⟨below_drewN hW _, hK _ ?_⟩
                        clear hK K
                        obtain ⟨z4, ez4⟩ : ∃ z, fres .add .f32 y2 x3 W.tape W.drawn = z := ⟨_, rfl⟩
                        have Hz4 : Hid (fl .f32 z4 = fop .add .f32 (fl .f32 y2) (fl .f32 x3)) := Lib.hid (by rw [← ez4]; exact fl_fres ..)
                        rw [ez4]
                        clear ez4 hW W
                        refine wpRel_step (fun K hK => ?_)
                        go_simp
                        intro W hW
                        refine ⟨sjoin_B (Nat.le_refl _) hW _ _ _, fun v hv => ?_⟩
                        obtain ⟨z5, rfl, hz5⟩ := rv_sjoin hv
                        refine hK _ ?_
                        clear hK K hW W hv
                        iterate 1 (refine wpRel_step (fun K hK => ?_); go_simp; intro W hW; obtain ⟨q0, q1, q2, q3⟩ := HLD.out W hW; (try go_simp); (first | refine ⟨hW, hK _ ?_⟩ | refine hK _ ?_); clear q0 q1 q2 q3 hK K hW W)
                        refine wpRel_nil ?_
                        intro W hW
                        have rW := rD.below hW rD.lt
                        obtain ⟨f3, y3, t0, t1, _⟩ := rW.cells hto
                        have u0 := rW.frz (to * 2)
                        have u1 := rW.frz (to * 2 + 1)
                        have HRW := Lib.hid rW
                        have HV : Hid (stO true z5 = joinS ((fbT M ms pt false T s 1).getD to none) (plusS (T.getD s none) (halfO ms pt s true))) := Lib.hid (by rw [hz5, Hz4.out, hx3, hd, HTS.out]; rfl)
                        have hbWW : Below wA.heap.size wA W := bD.trans (hW.mono bD.size)
                        clear rW hz5 hx3
                        go_wp2
                        go_roundw
                        case rel =>
                          refine ⟨1 + 1, by omega, by go_num, ?_, Below.setCell (p := ⟨wA.heap.size, to * 2 + 1, none⟩) (Below.setCell (p := ⟨wA.heap.size, to * 2, none⟩) hbWW (Nat.le_refl _) _) (Nat.le_refl _) _⟩
                          have h9 := fbT_step (M := M) (ms := ms) (part := pt) (last := false) (a := T) (s := s) true
                          rw [fwdE_yes (show (true && false) = false from rfl), HTO.out] at h9
                          have h8 := SRow.put HRW.out (to := to) hto true z5 _ HV.out
                          have e9 : fbT M ms pt false T s (1 + 1) = ((fbT M ms pt false T s 1).set to (joinS ((fbT M ms pt false T s 1).getD to none) (plusS (T.getD s none) (halfO ms pt s true)))) := h9
                          rw [e9]
                          exact h8
                        case measure => simp [intOf]
                      · have hnt : n ≤ t := of_decide_eq_true HLA.out
                        have hstep : fbT M ms pt true T s (1 + 1) = fbT M ms pt true T s 1 := (fbT_step true).trans fwdE_last
                        have HSTEP := Lib.hid hstep
                        clear hstep
                        go_wp2
                        go_roundw
                        case rel => exact ⟨1 + 1, by omega, by go_num, by rw [HSTEP.out]; exact HR.out, hbE⟩
                        case measure => simp [intOf]
                    · go_wp2
                      go_roundw
                      case rel => exact ⟨s + 1, by omega, by go_num, HR.out, hbE⟩
                      case measure => simp [intOf]; omega
              · obtain rfl : s = S := by omega
                have hAB := HAR.out.below HB0.out
                have hlen : (bs.map (rV s)).length + 1 ≤ 1099511627776 := by rw [List.length_map, HBL.out]; omega
                go_wp2_with (at_builtin; refine appGW Try.underlying69 infoSumS rfl (by decide) rfl _ _ rfl _ _ _ rfl (hAB.1.alloc _) _ _ _ rfl (cell_new1 _ _ _) rfl hlen (by simp; have := HB0.out.size; omega) ?_; intro v' w1 ho1 hg1)
                go_roundw
                case rel =>
                  refine ⟨t + 1, by omega, by go_num, bs ++ [wA.heap.size], by rw [List.length_append, HBL.out]; rfl, AR.step (by decide) HAR.out HB0.out hzA ?_ _ hg1 ho1, ?_⟩
                  · rw [HBL.out, HTAB.out]
                    exact HR0.out
                  · exact ((hbr.trans (HB0.out.mono hzA)).alloc (by have := HB0.out.size; omega) _).grown hg1 (by simp; have := HB0.out.size; omega) fun k hk => (World.ownsRow.lt hAB.1 k hk).1
                case measure => simp [intOf]; omega
          · obtain rfl : t = n + M := by omega
            have hgetA := fun i (hi : i < n + M + 1) => hAR.get (i := i) (by rw [hbl]; exact hi)
            obtain ⟨g, cg, rfl, hg6, hgA, _⟩ := hgetA 0 (by omega)
            have hGA : ∀ i, i < n + M + 1 → wA.cell? ⟨g, i, none⟩ = some (rV S (bs.getD i 0)) := fun i hi => by
              obtain ⟨g', c', e, _, _, h⟩ := hgetA i hi
              injection e with e1
              injection e1 with e2
              injection e2 with e3
              subst e3
              exact h
            rw [hbl]
            have HAR := Lib.hid hAR
            have HGA := Lib.hid hGA
            have HBL := Lib.hid hbl
            clear hgetA hAR hGA hbl
            obtain ⟨N, hN⟩ : ∃ N, n + M = N := ⟨_, rfl⟩
            have hnN : n ≤ N := by omega
            have hN44 : N ≤ 44 := by omega
            have hNI : (n : Int) + (M : Int) = (N : Int) := by omega
            have hNN : N * k = n2 := by rw [← hN]; exact HNN.out
            have HN := Lib.hid hN
            have HNI := Lib.hid hNI
            have HNNN := Lib.hid hNN
            rw [hN] at HGA HBL ⊢
            rw [hNI]
            have hmk := fun W : World => run_mkSum S (Nat.le_trans hS16 (by decide)) .i64 .i64 W
            have hmr := fun W : World => run_mk (P := Try.prog) Try.underlying69 infoSumS rfl (by decide) (N + 1) (by omega) .i64 .i64 W
            have hN1 : (((N + 1 : Nat)) : Int) = (N : Int) + 1 := by omega
            rw [hN1] at hmr
            obtain ⟨w8, e8⟩ : ∃ q0 : World, q0 = wA.alloc (.cells (zeroRow (.slice none 0 0) (N + 1)) 68) := ⟨_, rfl⟩
            have b8 : Below wA.heap.size wA w8 := by rw [e8]; exact (Below.refl _ _).alloc (Nat.le_refl _) _
            have r8 : Row w8 wA.heap.size 68 (List.replicate (N + 1) (.slice none 0 0)) := by rw [e8]; exact Row.new wA 68 (.slice none 0 0) (N + 1)
            have z8 : w8.heap.size = wA.heap.size + 1 := by rw [e8]; simp
            rw [← brow_none S] at r8
            obtain ⟨uu, c8⟩ : ∃ u, w8.cell? ⟨wA.heap.size, N, none⟩ = some u := ⟨_, r8.get (by rw [brow_len]; omega)⟩
            have f8 := r8.frz N
            obtain ⟨w9, e9⟩ : ∃ q0 : World, q0 = (w8.setCell ⟨wA.heap.size, N, none⟩ (.slice (some ⟨wA.heap.size + 1, 0, none⟩) S S)).alloc (.cells (madeCells #[Value.bool false, .float .f32 0] (S * 2)) 71) := ⟨_, rfl⟩
            have b9 : Below wA.heap.size wA w9 := by rw [e9]; exact (Below.setCell (p := ⟨wA.heap.size, N, none⟩) b8 (Nat.le_refl _) _).alloc (by simp; omega) _
            have r9 : Row w9 wA.heap.size 68 (brow S N N [wA.heap.size + 1]) := by
              have h := (r8.put N (rV S (wA.heap.size + 1))).alloc (.cells (madeCells #[Value.bool false, .float .f32 0] (S * 2)) 71)
              rw [brow_set (Nat.le_refl _) (by simp)] at h
              rw [e9]
              exact h
            have s9 : SRow 71 w9 (wA.heap.size + 1) S (noneR S) := by
              have h := SRow.new 71 (w8.setCell ⟨wA.heap.size, N, none⟩ (.slice (some ⟨wA.heap.size + 1, 0, none⟩) S S)) S
              rw [show (w8.setCell ⟨wA.heap.size, N, none⟩ (.slice (some ⟨wA.heap.size + 1, 0, none⟩) S S)).heap.size = wA.heap.size + 1 by simp [z8]] at h
              rw [e9]
              exact h
            have c9 : w9.cell? ⟨wA.heap.size, N, none⟩ = some (.slice (some ⟨wA.heap.size + 1, 0, none⟩) S S) := by
              have h := r9.get (k := N) (by rw [brow_len]; omega)
              rw [brow_get (Nat.le_refl _) (Nat.le_refl _), Nat.sub_self] at h
              exact h
            have z9 : w9.heap.size = wA.heap.size + 1 + 1 := by rw [e9]; simp [z8]
            obtain ⟨f0, y0, d0, d1, d2⟩ := s9.cells (s := 0) (by omega)
            have u0 := s9.frz 0
            have u1 := s9.frz (0 * 2 + 1)
            rw [Nat.zero_mul] at d0 d1 u1
            have HR9 := Lib.hid r9
            have HS9 := Lib.hid s9
            have HB9 := Lib.hid b9
            have HZ9 := Lib.hid z9
            have HZ8 := Lib.hid z8
            have hltd : decide ((N : Int) < (N : Int)) = false := decide_eq_false (by omega)
            clear r8 r9 s9 b8 b9 z9 z8
            have hz8 := HZ8.out
            go_upto_region 25 with (first | rw [hN1] | (rw [← e8]; clear e8) | (rw [← e9]; clear e9))
            clear d2 d0 d1 u0 u1 c9 hltd
            have hput := SRow.put HS9.out (to := 0) (by omega) true 0 (some (some 0)) (by unfold stO; rw [if_pos rfl, fl0])
            rw [Nat.zero_mul, Nat.zero_add] at hput
            have hb := Below.setCell (p := ⟨wA.heap.size + 1, 1, none⟩) (Below.setCell (p := ⟨wA.heap.size + 1, 0, none⟩) HB9.out (by simp) (.bool true)) (by simp) (.float .f32 0)
            have hB0 : BRel 71 68 wA S N (bwdT M ms xs n) N ((w9.setCell ⟨wA.heap.size + 1, 0, none⟩ (.bool true)).setCell ⟨wA.heap.size + 1, 1, none⟩ (.float .f32 0)) := by
              refine ⟨[wA.heap.size + 1], by simp, (HR9.out.far (by omega) _ _).far (by omega) _ _, fun j hj => ?_, hb⟩
              obtain rfl : j = 0 := by simpa using hj
              refine ⟨Nat.lt_succ_self _, ?_⟩
              show SRow _ _ (wA.heap.size + 1) S (oneR (2 ^ M))
              rw [HSS.out]
              exact hput
            refine wp_region_lit ?_
            iterate 3 (refine wpList_step (fun K2 hK2 => ?_); go_simp; refine hK2 _ _ ?_; clear hK2 K2)
            refine wpList_nil ?_
            go_simp
            rw [IntWalk.i64_in ((N : Int) - 1) (by omega)]
            refine (‹∀ (a : Act) (w : World), Code.wp Try.prog _ _ a w → _› _ _ ?_ : _)
            have HAR' : Hid (AR 71 68 w6.heap.size S (fwdT M ms xs n) wA (.slice (some ⟨g, 0, none⟩) (N + 1) cg) bs) := by rw [← HBL.out]; exact HAR
            exact tail25 w w6 wA M hM1 hM4 A k cap ms hl hk1 hk4 hr A2 n2 cap2 xs hl2 hcap n N S g cg bs hn hnN hN44 hS16 hS1 HSS HN HNNN HNO HYES HB6 hz6 HO6 HX6 HY6 hbr hgA HGA HBL HAR' _ hB0 _ ‹_› _ _ _ _ _ _ _ _ _ _ _ _ _ _ _ _ _ _ _ _ _ _ _ _ _ _ _ _ _ _ _ _ _ _ _ _ _ _ _ _ _ _ _ _ _ _ _ _ _ _ _ _ _ _ _ _ _ _ _ _ _ _ _ _ _ _ _ _ _ _ _ _ _ _ _ _ _ _ _ _ _ _ _ _ _ _ _ _ _ _ _ _ _ _ _ _ _ _ _ _ _ _ _ _ _ _ _ _ _ _ _ _ _ _ _ _ _ _ _ _ _ _ _ _ _ _ _ _ _ _ _ _ _ _ _ _ _ _ _ _ _ _ _ _ _ _ _ _ _ _ _ _ _ _ _ _ _ _ _ _ _ _ _ _ _ _ _ _ _ _ _ _ _ _ _ _ _ _ _ _ _ _ _ _ _ _ _ _ _ _ _ _ _ _ _ _ _ _ _ _ _ _ _ _ _ _ _ _ _ _ _ _ _ _ _ _ _ _ _ _ _ _ _ _ _ _ _ _ _ _ _ _ _ _ _ _ _ _ _ _ _ _ _ _ _ _ _ _ _ _ _ _ _ _ _ _ _ _ _ _ _ _ _ _ _ _ _ _ _ _ _ _ _ _ _ _ _ _ _ _ _ _ _ _ _ _ _ _ _ _ _ _ _ _ _ _ _ _

end Go.Proofs.Ytopeidmafalklaa
