/-
  Contracts: the reference's BoundedCode.
  Conditions: weights at most 1048576.
-/
import Derived.Test.YtkmfjadlobpbkaaBS
import Derived.Test.YtkmfjadlobpbkaaBM
namespace Go.Proofs.Ytkmfjadlobpbkaa
open Go.RowKit

/-- what stands beside the rows of packs -/
structure Lp (w0 : World) (base Lb n gl m cl : Nat) (lv : List Int) (TL : List Tri) (W : World) : Prop where
  row : Row W Lb 2 (lv.map (Value.int .i64))
  own : W.ownsRow base 42 2 (.slice (some ⟨gl, 0, none⟩) m cl) m (fl2 (cellsT TL))
  num : Num W base n TL
  box : Obj W w0.heap.size 24 #[.slice none 0 0]
  bel : Below w0.heap.size w0 W
theorem Lp.below {w0 W W' : World} {base Lb n gl m cl : Nat} {lv : List Int} {TL : List Tri} (h : Lp w0 base Lb n gl m cl lv TL W) (hb : Below W.heap.size W W') : Lp w0 base Lb n gl m cl lv TL W' :=
  ⟨h.row.below hb (Obj.lt h.row), own_below h.own hb (Nat.le_refl _), h.num.below hb, h.box.below hb h.box.lt, h.bel.trans (hb.mono h.bel.size)⟩
theorem Lp.long {w0 W : World} {base Lb n gl m cl : Nat} {lv : List Int} {TL : List Tri} (h : Lp w0 base Lb n gl m cl lv TL W) (hb : w0.heap.size < Lb) (hL : Lb < base) (j : Nat) (y : Int) : Lp w0 base Lb n gl m cl (lv.set j y) TL (W.setCell ⟨Lb, j, none⟩ (.int .i64 y)) := by
  refine ⟨?_, ownsRow_setCell_below h.own (a := ⟨Lb, j, none⟩) hL _, fun t ht => ⟨ownsRow_setCell_below (h.num t ht).1 (a := ⟨Lb, j, none⟩) hL _, (h.num t ht).2⟩, h.box.far (by omega) j _, below_put h.bel (by omega) j _⟩
  have := h.row.put j (.int .i64 y)
  rw [← List.map_set] at this
  exact this
theorem packs_ok {ws : List Int} (hw : weightsB ws = true) {k : Nat} (hk : k ≤ 15) : ∀ t ∈ packs ws k, (0 ≤ t.1 ∧ t.1 ≤ 1099511627776) ∧ ∀ x ∈ t.2, 0 ≤ x ∧ x ≤ 32768 := by
  intro t ht
  obtain ⟨r, hr, rfl⟩ := List.mem_map.1 ht
  obtain ⟨⟨h1, h2⟩, ⟨h3, h4⟩, h5⟩ := bRun_ok hw k r hr
  have hpow : (2 ^ k : Nat) ≤ 32768 := Nat.le_trans (Nat.pow_le_pow_right (n := 2) (by decide) hk) (by decide)
  refine ⟨⟨h1, by simp only; omega⟩, fun x hx => ?_⟩
  simp only at hx
  obtain ⟨i, _, rfl⟩ := List.mem_map.1 hx
  have := List.count_le_length (a := ((i : Nat) : Int)) (l := r.2)
  omega
theorem lenK_ge (n : Nat) : ∀ k, n ≤ lenK n k
  | 0 => Nat.le_refl _
  | _ + 1 => Nat.le_add_right _ _
theorem codeB_one : codeB [1] = true := by decide +kernel


set_option maxRecDepth 100000 in
set_option maxHeartbeats 8000000 in
theorem spec_BoundedCode_c (w : World) (A : Option Addr) (n cap : Nat) (ws : List Int) (hl : ws.length = n) (hn : n ≤ 1048576) (hx : Sl w w.heap.size A (ws.map (Value.int .i64))) (most : Int) :
    Calls Try.prog 4 #[.slice A n cap, .int .i64 most] w (BcPost w ws most) := by
  unfold BcPost
  obtain ⟨w1, e1⟩ : ∃ q : World, q = w.alloc (.cells #[.slice none 0 0] 24) := ⟨_, rfl⟩
  have b1 : Below w.heap.size w w1 := by rw [e1]; exact (Below.refl _ _).alloc (Nat.le_refl _) _
  have z1 : w.heap.size + 1 = w1.heap.size := by rw [e1]; simp
  have bx : Obj w1 w.heap.size 24 #[.slice none 0 0] := by rw [e1]; exact Obj.new _ _ _
  have c1 : w1.cell? ⟨w.heap.size, 0, none⟩ = some (.slice none 0 0) := bx.cell 0
  have f1 : w1.frozen? ⟨w.heap.size, 0, none⟩ = false := bx.frozen 0
  have HWC := Lib.hid (spec_l04Weights_c w1 w1.heap.size A n cap ws hl hn ((hx.below b1).more b1.size))
  have B1 := Lib.hid b1
  have Z1 := Lib.hid z1
  have BX := Lib.hid bx
  have HX := Lib.hid hx
  clear hx b1 z1 bx
  have hfail : boundOk ws most = false → boundedV ws most = ([], false) := fun h => by unfold boundedV; rw [h]; rfl
  cases hw : weightsB ws
  · have hv := hfail (by unfold boundOk; rw [hw]; rfl)
    rw [hv]
    rw [hw] at HWC
    clear hw hfail
    go_enter Try.func4, Try.ntmps4
    go_wp2_with (rw [← e1]; clear e1)
    refine HWC.out.mono ?_
    rintro e w2 ⟨rfl, rfl⟩
    go_wp2
    refine bodyPost_ret (v := .tuple #[.agg #[.slice none 0 0], .bool false]) (by unfold results; rw [Try.results4]; go_simp) rfl ?_
    exact ⟨_, rfl, World.ownsRow_nil _ _ _ _, B1.out.setCell (p := ⟨w.heap.size, 0, none⟩) (Nat.le_refl _) _⟩
  · rw [hw] at HWC
    cases hin : inB most 1 16
    · have hv := hfail (by unfold boundOk; rw [hw, hin]; rfl)
      rw [hv]
      have HIN := Lib.hid hin
      clear hw hfail hin
      go_enter Try.func4, Try.ntmps4
      go_wp2_with (rw [← e1]; clear e1)
      refine HWC.out.mono ?_
      rintro e w2 ⟨rfl, rfl⟩
      go_wp2_with (go_at_call 13; refine (spec_l00In_c _ _ _ _).mono ?_; rintro e w' ⟨rfl, rfl⟩; rw [HIN.out])
      refine bodyPost_ret (v := .tuple #[.agg #[.slice none 0 0], .bool false]) (by unfold results; rw [Try.results4]; go_simp) rfl ?_
      exact ⟨_, rfl, World.ownsRow_nil _ _ _ _, B1.out.setCell (p := ⟨w.heap.size, 0, none⟩) (Nat.le_refl _) _⟩
    · have hm := inB_true.1 hin
      obtain ⟨K, rfl⟩ : ∃ K : Nat, most = (K : Int) := ⟨most.toNat, by omega⟩
      have hK1 : 1 ≤ K := by omega
      have hK16 : K ≤ 16 := by omega
      obtain ⟨p1, p2, p3⟩ := pow_le16 K hK16
      obtain ⟨PW, hPW⟩ : ∃ PW, (2 ^ K : Nat) = PW := ⟨_, rfl⟩
      rw [hPW] at p1 p2 p3
      have hu1 : IntKind.u64.wrap (K : Int) = (K : Int) := IntWalk.u64_in _ (by omega)
      have HIN := Lib.hid hin
      have P1 := Lib.hid p1
      have P2 := Lib.hid p2
      have HPW := Lib.hid hPW
      clear hin p1 p2 hPW
      have hw2 := hw
      unfold weightsB at hw2
      simp only [Bool.and_eq_true, decide_eq_true_eq] at hw2
      obtain ⟨⟨h1, h16⟩, _⟩ := hw2
      rw [hl] at h1 h16
      by_cases hle : n ≤ PW
      · have hok : boundOk ws (K : Int) = true := by
          unfold boundOk
          rw [hw, HIN.out, hl, Int.toNat_natCast, HPW.out, decide_eq_true hle]
          rfl
        have hgt : decide ((PW : Int) < (n : Int)) = false := decide_eq_false (by omega)
        have hgt2 : decide (PW < n) = false := decide_eq_false (by omega)
        by_cases hn1 : n = 1
        · have hlw : ws.length = 1 := by omega
          have hm : boundedL ws (K : Int) = [1] := by unfold boundedL; rw [if_pos hlw]
          have hv : boundedV ws (K : Int) = ([1], true) := by unfold boundedV; rw [hok, hm, hlw]; rfl
          rw [hv]
          subst hn1
          have hmk := fun W : World => run_mk (P := Try.prog) Try.underlying22 infoInt64 rfl (by decide) 1 (by omega) .i64 .i64 W
          have hgt3 : decide ((PW : Int) < 1) = false := decide_eq_false (by omega)
          obtain ⟨w2, e2⟩ : ∃ q' : World, q' = w1.alloc (.cells (zeroRow (.int .i64 0) 1) 2) := ⟨_, rfl⟩
          have R2 : Row w2 w1.heap.size 2 (List.replicate 1 (.int .i64 0)) := by rw [e2]; exact Row.new w1 2 (.int .i64 0) 1
          have X2 : Obj w2 w.heap.size 24 #[.slice none 0 0] := by rw [e2]; exact BX.out.alloc _
          have hz1 := Z1.out
          have B2 : Below w.heap.size w w2 := by rw [e2]; exact B1.out.alloc (by omega) _
          have hq : ((1 : Int) == 1) = true := rfl
          have q0 := R2.get (k := 0) (by simp)
          have q1 := R2.frz 0
          simp only [List.getElem_replicate] at q0
          have hmk1 : ∀ W : World, (Instr.makeSlice 22 (.int .i64 1) (.int .i64 1)).run Try.prog W = .ok (.slice (some ⟨W.heap.size, 0, none⟩) 1 1) (W.alloc (.cells (zeroRow (.int .i64 0) 1) 2)) := fun W => hmk W
          clear hmk
          have R3 := R2.put 0 (.int .i64 1)
          have X3 := X2.far (by omega) 0 (.int .i64 1) (b := w1.heap.size)
          have B3 := below_put B2 (b := w1.heap.size) (by omega) 0 (.int .i64 1)
          obtain ⟨w3, e3⟩ : ∃ q' : World, q' = w2.setCell ⟨w1.heap.size, 0, none⟩ (.int .i64 1) := ⟨_, rfl⟩
          rw [← e3] at R3 X3 B3
          have own := Row.own (base := w.heap.size) R3 (by omega) (by simp)
          have own : w3.ownsRow w.heap.size 2 1 (.slice (some ⟨w1.heap.size, 0, none⟩) 1 1) 1 [.int .i64 1] := own
          have HA := Lib.hid (spec_l04Give_c w3 (some ⟨w1.heap.size, 0, none⟩) 1 1 [1] rfl (by decide) (sl_of_own own))
          have OWN := Lib.hid own
          have HX3 := Lib.hid X3
          have HB3 := Lib.hid B3
          clear R3 X3 B3 own R2 X2 B2 hw hfail hv hm hok hlw
          go_enter Try.func4, Try.ntmps4
          go_wp2_with (rw [← e1]; clear e1)
          refine HWC.out.mono ?_
          rintro e w3' ⟨rfl, hww⟩
          rw [hww]
          clear hww w3'
          go_wp2_with (first
            | (go_at_call 13; refine (spec_l00In_c _ _ _ _).mono ?_; rintro e w' ⟨rfl, rfl⟩; rw [HIN.out])
            | (rw [P1.out])
            | (rw [P2.out])
            | (rw [← e2]; clear e2)
            | (rw [← e3]; clear e3))
          refine HA.out.mono ?_
          rintro e w5 ⟨rfl, hb5⟩
          have xx := HX3.out.below hb5 HX3.out.lt
          have d1 := xx.cell 0
          have d2 := xx.frozen 0
          have ow5 := own_below OWN.out hb5 (Nat.le_refl _)
          have OW5 := Lib.hid (ow5.kept (grownBy_set w5 w.heap.size 0 (.slice (some ⟨w1.heap.size, 0, none⟩) 1 1)) (.inr (by have := Z1.out; simp [Value.ownBlock]; omega)))
          have B5 := Lib.hid (HB3.out.trans (hb5.mono HB3.out.size))
          clear ow5 xx
          rw [codeB_one]
          unfold asV
          go_wp2_with fail
          refine bodyPost_ret (v := .tuple #[.agg #[.slice (some ⟨w1.heap.size, 0, none⟩) 1 1], .bool true]) (by unfold results; rw [Try.results4]; go_simp) rfl ?_
          exact ⟨_, rfl, OW5.out, B5.out.setCell (p := ⟨w.heap.size, 0, none⟩) (Nat.le_refl _) _⟩
        · have hm : boundedL ws (K : Int) = bLong n ((bRun ws (K - 1)).take (2 * n - 2)) := by unfold boundedL; rw [if_neg (by omega), hl, Int.toNat_natCast]
          have hv : boundedV ws (K : Int) = if codeB (boundedL ws (K : Int)) then (boundedL ws (K : Int), true) else ([], false) := by
            unfold boundedV
            rw [hok, Bool.true_and, show (ws.length == 1) = false by simp; omega, Bool.false_or]
          have hne1 : ((n : Int) == 1) = false := by simp; omega
          have hmk := fun W : World => run_mk (P := Try.prog) Try.underlying22 infoInt64 rfl (by decide) n (by omega) .i64 .i64 W
          obtain ⟨w2, e2⟩ : ∃ q' : World, q' = w1.alloc (.cells (zeroRow (.int .i64 0) n) 2) := ⟨_, rfl⟩
          have R2 : Row w2 w1.heap.size 2 (List.replicate n (.int .i64 0)) := by rw [e2]; exact Row.new w1 2 (.int .i64 0) n
          have X2 : Obj w2 w.heap.size 24 #[.slice none 0 0] := by rw [e2]; exact BX.out.alloc _
          have hz1 := Z1.out
          have B2 : Below w.heap.size w w2 := by rw [e2]; exact B1.out.alloc (by omega) _
          have hz2 : w1.heap.size < w2.heap.size := by rw [e2]; simp
          have HV := Lib.hid hv
          have HM := Lib.hid hm
          have HW := Lib.hid hw
          have HR2 := Lib.hid R2
          have HX2 := Lib.hid X2
          have HB2 := Lib.hid B2
          clear hw hfail hv hm hok c1 f1 R2 X2 B2
          go_enter Try.func4, Try.ntmps4
          go_wp2_with (rw [← e1]; clear e1)
          refine HWC.out.mono ?_
          rintro e w3' ⟨rfl, hww⟩
          rw [hww]
          clear hww w3'
          go_wp2_with (first
            | (go_at_call 13; refine (spec_l00In_c _ _ _ _).mono ?_; rintro e w' ⟨rfl, rfl⟩; rw [HIN.out])
            | (rw [P1.out])
            | (rw [P2.out])
            | (rw [← e2]; clear e2))
          refine (spec_l04Singles_c w2 A n cap ws hl h1 h16 ((HX.out.below HB2.out).more (by omega))).mono ?_
          rintro e w3 ⟨v, TS, rfl, hTS, hPS, hoS, hnS, hb3⟩
          obtain ⟨gs, cs, rfl, hgs, _⟩ := World.ownsRow.form hoS (by omega)
          rw [← packs_zero] at hPS
          have hz3 := hb3.size
          have hlp : Lp w w2.heap.size w1.heap.size n gs n cs (List.replicate n 0) TS w3 := by
            refine ⟨?_, hoS, hnS, HX2.out.below hb3 (by omega), HB2.out.trans (hb3.mono HB2.out.size)⟩
            have e : (List.replicate n (0 : Int)).map (Value.int .i64) = List.replicate n (.int .i64 0) := by simp
            rw [e]
            exact HR2.out.below hb3 (by omega)
          have HLP := Lib.hid hlp
          have HPS := Lib.hid hPS
          have HTS := Lib.hid hTS
          have HPO := Lib.hid (fun k (hk : k ≤ 15) => packs_ok HW.out hk)
          clear hoS hnS hPS hTS hb3 hlp HR2 HX2 HB2 hmk
          obtain ⟨K1, hK1e⟩ : ∃ K1, K - 1 = K1 := ⟨_, rfl⟩
          have hK15 : K1 ≤ 15 := by omega
          have HKE := Lib.hid hK1e
          have hKK : K = K1 + 1 := by omega
          have HKK := Lib.hid hKK
          clear hK1e hKK
          go_wp2_with fail
          go_loopw [9, 10] (fun u i wr => ∃ (t m gl cl : Nat) (TL : List Tri), t ≤ K1 ∧ i = .int .i64 ((t : Int) + 1) ∧ u = .slice (some ⟨gl, 0, none⟩) m cl ∧ TL.length = m ∧ Hid (plainT TL = packs ws t) ∧ Hid (Lp w w2.heap.size w1.heap.size n gs n cs (List.replicate n 0) TS wr) ∧ Hid (Lp w w2.heap.size w1.heap.size n gl m cl (List.replicate n 0) TL wr)) (fun _ i _ => K1 + 1 - (RowKit.intOf i).toNat)
          case atStart => exact ⟨0, n, gs, cs, TS, Nat.zero_le _, rfl, rfl, HTS.out, HPS, HLP, HLP⟩
          case round =>
            obtain ⟨t, m, gl, cl, TL, ht, rfl, rfl, hTL, HPL, HLS, HLL⟩ := hrel
            obtain ⟨w4, rfl⟩ : ∃ w4 : World, w4 = wr := ⟨_, rfl⟩
            have hlen := bRun_len ws t
            have hpl : (packs ws t).length = (bRun ws t).length := by simp [packs, mapS]
            rw [← hpl, ← HPL.out, hl] at hlen
            have hml : m = lenK n t := by rw [← hlen]; simp [plainT, hTL]
            have hlk := lenK_all n (by omega) t (by omega)
            rw [← hml] at hlk
            have hm31 : m ≤ 31 := hlk.1
            have HML := Lib.hid hml
            clear hlen hml hlk hpl
            by_cases htK : t < K1
            · have hmem : ∀ r ∈ TL, (r.1, r.2.2) ∈ packs ws t := fun r hr => by rw [← HPL.out]; exact List.mem_map_of_mem (f := fun t : Tri => (t.1, t.2.2)) hr
              have HPA := Lib.hid (spec_l04Paired_c w4 w2.heap.size gl m cl n TL hTL (by omega) (by omega) (by omega) HLL.out.own HLL.out.num (fun r hr => (HPO.out t (by omega) _ (hmem r hr)).1) (fun r hr x hx => by have := (HPO.out t (by omega) _ (hmem r hr)).2 x hx; omega))
              have hd1 : decide ((t : Int) + 1 < (K : Int)) = true := decide_eq_true (by have := HKK.out; omega)
              have hd2 : (t : Int) + 1 < (K : Int) := by have := HKK.out; omega
              have hmm : 1 ≤ m / 2 ∨ m / 2 = 0 := by omega
              clear hmem
              go_wp2_with fail
              refine HPA.out.mono ?_
              rintro e w5 ⟨v5, T5, rfl, hT5, hP5, ho5, hn5, hb5⟩
              have hge := lenK_ge n t
              rw [← HML.out] at hge
              obtain ⟨m2, hm2⟩ : ∃ m2, m / 2 = m2 := ⟨_, rfl⟩
              rw [hm2] at hT5 ho5
              obtain ⟨g5, c5, rfl, hg5, _⟩ := World.ownsRow.form ho5 (by omega)
              have hz5 := hb5.size
              have hls5 := HLS.out.below hb5
              have hll5 := HLL.out.below hb5
              have hz4 : w2.heap.size ≤ w4.heap.size := by
                have := (HLS.out.own.lt gs rfl)
                omega
              have hn5b := hn5.base hz4
              have HME := Lib.hid (spec_l04Merged_c w5 w2.heap.size gs n cs g5 m2 c5 n TS T5 HTS.out hT5 (by omega) (by omega) (by omega) (by omega) hls5.own (own_base ho5 hz4) hls5.num hn5b)
              have HN5 := Lib.hid hn5b
              have HP5 := Lib.hid hP5
              have HB5 := Lib.hid hb5
              have HLS5 := Lib.hid hls5
              clear ho5 hn5 hn5b hP5 hb5 hls5 hll5 HPA
              go_wp2_with fail
              refine HME.out.mono ?_
              rintro e w6 ⟨v6, T6, rfl, hT6, hP6, hi6, ho6, hb6⟩
              obtain ⟨g6, c6, rfl, hg6, _⟩ := World.ownsRow.form ho6 (by omega)
              have hls6 := HLS5.out.below hb6
              have hpk : plainT T6 = packs ws (t + 1) := by rw [hP6, HP5.out, HPL.out, HPS.out, ← packs_step]
              have hlp6 : Lp w w2.heap.size w1.heap.size n g6 (n + m2) c6 (List.replicate n 0) T6 w6 := ⟨hls6.row, own_base ho6 (by omega), fun r hr => (hi6 r hr).elim (fun h => hls6.num r h) (fun h => (HN5.out.below hb6) r h), hls6.box, hls6.bel⟩
              have HLS6 := Lib.hid hls6
              have HLP6 := Lib.hid hlp6
              have HPK := Lib.hid hpk
              clear hls6 hlp6 hpk ho6 hb6 hi6 hP6 HME
              go_wp2_with fail
              go_roundw
              case rel => exact ⟨t + 1, n + m2, g6, c6, T6, by omega, by go_num, rfl, hT6, HPK, HLS6, HLP6⟩
              case measure => simp [RowKit.intOf]; omega
            · have hte : t = K1 := by omega
              subst hte
              have hlk := lenK_all n (by omega) t (by omega)
              have hnp : n ≤ 2 ^ (t + 1) := by rw [← HKK.out, HPW.out]; exact hle
              have h2n := hlk.2 hnp
              rw [← HML.out] at h2n
              obtain ⟨M2, hM2⟩ : ∃ M2, 2 * n - 2 = M2 := ⟨_, rfl⟩
              rw [hM2] at h2n
              have q1 : (2 : Int) * (n : Int) - 2 = (M2 : Int) := by omega
              have hd1 : decide ((t : Int) + 1 < (K : Int)) = false := decide_eq_false (by have := HKK.out; omega)
              have hd2 : ¬ (t : Int) + 1 < (K : Int) := by have := HKK.out; omega
              have HM2 := Lib.hid hM2
              have hPlen : (bRun ws t).length = m := by
                have h := congrArg List.length HPL.out
                simp [packs, mapS, plainT, hTL] at h
                omega
              have HPLN := Lib.hid hPlen
              have HLL0 := Lib.hid (show Lp w w2.heap.size w1.heap.size n gl m cl (bLong n ((bRun ws t).take 0)) TL w4 by
                have e : bLong n ((bRun ws t).take 0) = List.replicate n 0 := by simp [bLong]
                rw [e]
                exact HLL.out)
              have HOK := Lib.hid (bRun_ok HW.out)
              clear hlk hnp hM2 hPlen HLL
              go_wp2_with fail
              go_loopw [11] (fun i wr => ∃ z : Nat, z ≤ M2 ∧ i = .int .i64 (z : Int) ∧ Hid (Lp w w2.heap.size w1.heap.size n gl m cl (bLong n ((bRun ws t).take z)) TL wr)) (fun i _ => M2 - (RowKit.intOf i).toNat)
              case atStart => exact ⟨0, Nat.zero_le _, rfl, HLL0⟩
              case round =>
                obtain ⟨z, hz, rfl, HLG⟩ := hrel
                obtain ⟨w5, rfl⟩ : ∃ w5 : World, w5 = wr := ⟨_, rfl⟩
                by_cases hlz : z < M2
                · have hzl : z < TL.length := by omega
                  have hzm : z < (bRun ws t).length := by rw [HPLN.out]; omega
                  have ebz : (TL[z].1, TL[z].2.2) = ((bRun ws t)[z].1, cnt ws.length (bRun ws t)[z].2) := by
                    have h := congrArg (fun l => l[z]?) HPL.out
                    simp only [plainT, packs, mapS, List.getElem?_map, List.getElem?_eq_getElem hzl, List.getElem?_eq_getElem hzm] at h
                    exact Option.some.inj h
                  have okZ := HOK.out t _ (List.getElem_mem hzm)
                  have htk : (bRun ws t).take (z + 1) = (bRun ws t).take z ++ [(bRun ws t)[z]] := List.take_succ_eq_append_getElem hzm
                  have hbd := bLong_bd (n := n) (M := 2 ^ t) ((bRun ws t).take z) (fun r hr => ⟨(HOK.out t r (List.mem_of_mem_take hr)).2.1.2, by have := (HOK.out t r (List.mem_of_mem_take hr)).2.2; rwa [hl] at this⟩)
                  have htz : ((bRun ws t).take z).length = z := by rw [List.length_take, HPLN.out]; omega
                  rw [htz] at hbd
                  have hpow : (2 ^ t : Nat) ≤ 32768 := Nat.le_trans (Nat.pow_le_pow_right (n := 2) (by decide) (show t ≤ 15 by omega)) (by decide)
                  have hbd2 : ∀ j, 0 ≤ (bLong n ((bRun ws t).take z)).getD j 0 ∧ (bLong n ((bRun ws t).take z)).getD j 0 ≤ 1048576 := fun j => by
                    have h1 := hbd j
                    have h2 : z * 2 ^ t ≤ 31 * 32768 := Nat.mul_le_mul (by omega) hpow
                    omega
                  have hbl := bLong_len n ((bRun ws t).take z)
                  have hlz2 : TL[z].2.2 = cnt n (bRun ws t)[z].2 := by
                    have := congrArg Prod.snd ebz
                    rw [hl] at this
                    exact this
                  have hstep : bLong n ((bRun ws t).take (z + 1)) = addC (bLong n ((bRun ws t).take z)) TL[z].2.2 := by
                    rw [htk, bLong_snoc, addL_cnt hbl (by have := okZ.2.2; rwa [hl] at this), hlz2]
                  have hcb := (HPO.out t (by omega) (TL[z].1, TL[z].2.2) (by rw [← HPL.out]; exact List.mem_map_of_mem (f := fun t : Tri => (t.1, t.2.2)) (List.getElem_mem hzl))).2
                  have hLZ := HLG.out.num TL[z] (List.getElem_mem hzl)
                  have hcz : (cellsT TL)[z]? = some (TL[z].1, TL[z].2.1) := by simp [cellsT, hzl]
                  have hmz : TL[z] ∈ TL := List.getElem_mem hzl
                  obtain ⟨⟨x1, v1, l1⟩, ex1⟩ : ∃ r, TL[z] = r := ⟨_, rfl⟩
                  rw [ex1] at hstep hcb hLZ hcz hmz
                  simp only at hstep hcb hLZ hcz
                  obtain ⟨g1, c1, rfl, _, _⟩ := World.ownsRow.form hLZ.1 (by omega)
                  obtain ⟨lv, hlv⟩ : ∃ lv, bLong n ((bRun ws t).take z) = lv := ⟨_, rfl⟩
                  rw [hlv] at hstep hbl hbd2
                  have HLV := Lib.hid hlv
                  have HSTP := Lib.hid hstep
                  have HLBD := Lib.hid hbd2
                  have HBL := Lib.hid hbl
                  have HCB := Lib.hid hcb
                  have HL1 := Lib.hid hLZ.2
                  have HCZ := Lib.hid hcz
                  have HMZ := Lib.hid hmz
                  clear hzm ebz okZ htk hbd htz hpow hbd2 hbl hlz2 hstep hcb hLZ hcz hlv ex1 hzl hmz
                  go_wp2_with fail
                  go_loopw [12] (fun i wr => ∃ k : Nat, k ≤ n ∧ i = .int .i64 (k : Int) ∧ Hid (Lp w w2.heap.size w1.heap.size n gl m cl (addCk lv l1 k) TL wr)) (fun i _ => n - (RowKit.intOf i).toNat)
                  case atStart => exact ⟨0, Nat.zero_le _, rfl, Lib.hid (by rw [addCk_zero, ← HLV.out]; exact HLG.out)⟩
                  case round =>
                    obtain ⟨k, hk, rfl, HLK⟩ := hrel
                    obtain ⟨w6, rfl⟩ : ∃ w6 : World, w6 = wr := ⟨_, rfl⟩
                    by_cases hkn : k < n
                    · have hka : k < lv.length := by rw [HBL.out]; exact hkn
                      have hkb : k < l1.length := by rw [HL1.out]; exact hkn
                      obtain ⟨_, b0⟩ := pack_cells HLK.out.own HCZ.out
                      have b1 := World.ownsRow.cellAt (HLK.out.num _ HMZ.out).1 k (by omega)
                      rw [List.getElem?_map, List.getElem?_eq_getElem hkb] at b1
                      simp only [Option.map_some] at b1
                      have eb : l1[k] = l1.getD k 0 := by rw [List.getD_eq_getElem?_getD, List.getElem?_eq_getElem hkb]; rfl
                      rw [eb] at b1
                      have a0 := HLK.out.row.cell k
                      have ek : ((addCk lv l1 k).map (Value.int .i64))[k]? = some (.int .i64 (lv.getD k 0)) := by rw [List.getElem?_map, addCk_at lv l1 hka]; rfl
                      rw [List.getElem?_toArray, ek] at a0
                      have a1 := HLK.out.row.frz k
                      have ha := HLBD.out k
                      have hb := HCB.out (l1.getD k 0) (by rw [← eb]; exact List.getElem_mem hkb)
                      have hst := HLK.out.long (by omega) hz2 k (lv.getD k 0 + l1.getD k 0)
                      rw [← addCk_succ] at hst
                      obtain ⟨x, ex⟩ : ∃ x, lv.getD k 0 = x := ⟨_, rfl⟩
                      obtain ⟨y, ey⟩ : ∃ y, l1.getD k 0 = y := ⟨_, rfl⟩
                      rw [ex] at a0 ha hst
                      rw [ey] at b1 hb hst
                      have hadd : IntKind.i64.wrap (x + y) = x + y := IntWalk.i64_in _ (by omega)
                      have q5 : (0 : Int) ≤ (k : Int) := by omega
                      have q6 : (k : Int) < (n : Int) := by omega
                      have q7 : (0 : Int) ≤ (z : Int) := by omega
                      have q8 : (z : Int) < (m : Int) := by omega
                      have HST := Lib.hid hst
                      clear hst ex ey eb ha hb ek hka hkb
                      go_wp2_with fail
                      go_region
                      go_wp2_with fail
                      go_roundw
                      case rel => exact ⟨k + 1, hkn, by go_num, Lib.hid (HST.out.below (below_of_drewN _ _ _))⟩
                      case measure => simp [RowKit.intOf]; omega
                    · have hke : k = n := by omega
                      subst hke
                      have hfull : addCk lv l1 k = bLong k ((bRun ws t).take (z + 1)) := by rw [HSTP.out, ← addCk_all, HBL.out]
                      have HFU := Lib.hid hfull
                      clear hfull
                      go_wp2_with fail
                      go_roundw
                      case rel => exact ⟨z + 1, hlz, by go_num, Lib.hid (by rw [← HFU.out]; exact HLK.out)⟩
                      case measure => simp [RowKit.intOf]; omega
                · have hze : z = M2 := by omega
                  subst hze
                  have hLe : boundedL ws (K : Int) = bLong n ((bRun ws t).take z) := by rw [HM.out, HKE.out, HM2.out]
                  have hlong := bLong_len n ((bRun ws t).take z)
                  rw [← hLe] at hlong
                  have hrow := HLG.out.row
                  rw [← hLe] at hrow
                  have HVV := HV.out
                  obtain ⟨L, eL⟩ : ∃ L, boundedL ws (K : Int) = L := ⟨_, rfl⟩
                  rw [eL] at hrow hlong HVV
                  have HV2 := Lib.hid HVV
                  have own := Row.own (base := w.heap.size) hrow (by omega) (by rw [List.length_map]; omega)
                  unfold Ow at own
                  rw [List.length_map, hlong] at own
                  have HA := Lib.hid (spec_l04Give_c w5 _ n n L hlong hn (sl_of_own own))
                  have OWN := Lib.hid own
                  have c1 := HLG.out.box.cell 0
                  have f1 := HLG.out.box.frozen 0
                  have BB := Lib.hid HLG.out.bel
                  have hbl := HLG.out.box.lt
                  have BXX := Lib.hid HLG.out.box
                  clear own hrow eL HVV hLe
                  go_wp2_with fail
                  refine HA.out.mono ?_
                  rintro e w8 ⟨rfl, hb8⟩
                  have xx := BXX.out.below hb8 hbl
                  have d1 := xx.cell 0
                  have d2 := xx.frozen 0
                  have ow8 := own_below OWN.out hb8 (Nat.le_refl _)
                  have OW8 := Lib.hid (ow8.kept (grownBy_set w8 w.heap.size 0 (.slice (some ⟨w1.heap.size, 0, none⟩) n n)) (.inr (by simp [Value.ownBlock]; omega)))
                  have B8 := Lib.hid (BB.out.trans (hb8.mono BB.out.size))
                  clear ow8 xx c1 f1
                  cases hc : codeB L
                  · rw [hc] at HV2
                    unfold asV
                    go_wp2_with fail
                    refine bodyPost_ret (v := .tuple #[.agg #[.slice none 0 0], .bool false]) (by unfold results; rw [Try.results4]; go_simp) rfl ?_
                    refine ⟨_, by rw [HV2.out]; rfl, ?_, B8.out.setCell (p := ⟨w.heap.size, 0, none⟩) (Nat.le_refl _) _⟩
                    rw [HV2.out]
                    exact World.ownsRow_nil _ _ _ _
                  · rw [hc] at HV2
                    unfold asV
                    go_wp2_with fail
                    refine bodyPost_ret (v := .tuple #[.agg #[.slice (some ⟨w1.heap.size, 0, none⟩) n n], .bool true]) (by unfold results; rw [Try.results4]; go_simp) rfl ?_
                    refine ⟨_, by rw [HV2.out]; rfl, ?_, B8.out.setCell (p := ⟨w.heap.size, 0, none⟩) (Nat.le_refl _) _⟩
                    rw [HV2.out]
                    unfold Ow
                    rw [List.length_map]
                    show World.ownsRow _ _ _ _ _ L.length (L.map _)
                    rw [hlong]
                    exact OW8.out
      · have hok : boundOk ws (K : Int) = false := by
          unfold boundOk
          rw [hw, HIN.out, hl, Int.toNat_natCast, HPW.out, decide_eq_false hle]
          rfl
        have hv := hfail hok
        rw [hv]
        have hgt : decide ((PW : Int) < (n : Int)) = true := decide_eq_true (by omega)
        have hgt2 : decide (PW < n) = true := decide_eq_true (by omega)
        clear hw hfail hv hok
        go_enter Try.func4, Try.ntmps4
        go_wp2_with (rw [← e1]; clear e1)
        refine HWC.out.mono ?_
        rintro e w2 ⟨rfl, rfl⟩
        go_wp2_with (first
          | (go_at_call 13; refine (spec_l00In_c _ _ _ _).mono ?_; rintro e w' ⟨rfl, rfl⟩; rw [HIN.out])
          | (rw [P1.out])
          | (rw [P2.out]))
        refine bodyPost_ret (v := .tuple #[.agg #[.slice none 0 0], .bool false]) (by unfold results; rw [Try.results4]; go_simp) rfl ?_
        exact ⟨_, rfl, World.ownsRow_nil _ _ _ _, B1.out.setCell (p := ⟨w.heap.size, 0, none⟩) (Nat.le_refl _) _⟩

end Go.Proofs.Ytkmfjadlobpbkaa
