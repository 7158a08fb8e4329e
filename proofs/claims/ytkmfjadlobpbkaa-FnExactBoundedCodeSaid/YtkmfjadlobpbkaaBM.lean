/-
  Contracts: the program's BoundedCode.
  Conditions: weights at most 1048576.
-/
import Derived.Test.YtkmfjadlobpbkaaBK
import Derived.Test.YtkmfjadlobpbkaaAC
import Derived.Test.YtkmfjadlobpbkaaRW
import Derived.Test.YtkmfjadlobpbkaaSC
namespace Go.Proofs.Ytkmfjadlobpbkaa
open Go.RowKit

def BcPost (w : World) (ws : List Int) (most : Int) (e : Ending) (w' : World) : Prop := ∃ v, e = .returned (.tuple #[.agg #[v], .bool (boundedV ws most).2]) ∧ Ow w' w.heap.size 2 v ((boundedV ws most).1.map (Value.int .i64)) ∧ Below w.heap.size w w'

theorem pow_le16 : ∀ k : Nat, k ≤ 16 → IntKind.i64.wrap (2 ^ k) = ((2 ^ k : Nat) : Int) ∧ wrap64 (2 ^ k) = ((2 ^ k : Nat) : Int) ∧ (2 ^ k : Nat) ≤ 65536 := by decide +kernel
/-- what stands beside the rows of bunches -/
structure Bt (w0 : World) (base g0 n c0 : Nat) (TS : List Tri) (W : World) : Prop where
  row : W.ownsRow base 48 2 (.slice (some ⟨g0, 0, none⟩) n c0) n (fl2 (cellsT TS))
  le : Let W base TS
  box : Obj W w0.heap.size 24 #[.slice none 0 0]
  bel : Below w0.heap.size w0 W
theorem Bt.below {w0 W W' : World} {base g0 n c0 : Nat} {TS : List Tri} (h : Bt w0 base g0 n c0 TS W) (hb : Below W.heap.size W W') : Bt w0 base g0 n c0 TS W' :=
  ⟨own_below h.row hb (Nat.le_refl _), h.le.below hb, h.box.below hb h.box.lt, h.bel.trans (hb.mono h.bel.size)⟩

/-- what stands beside the row of lengths -/
structure Lg (w0 : World) (base Lb gl m cl : Nat) (lv : List Int) (TL : List Tri) (W : World) : Prop where
  row : Row W Lb 2 (lv.map (Value.int .i64))
  own : W.ownsRow base 48 2 (.slice (some ⟨gl, 0, none⟩) m cl) m (fl2 (cellsT TL))
  le : Let W base TL
  box : Obj W w0.heap.size 24 #[.slice none 0 0]
  bel : Below w0.heap.size w0 W
theorem Lg.below {w0 W W' : World} {base Lb gl m cl : Nat} {lv : List Int} {TL : List Tri} (h : Lg w0 base Lb gl m cl lv TL W) (hb : Below W.heap.size W W') : Lg w0 base Lb gl m cl lv TL W' :=
  ⟨h.row.below hb (Obj.lt h.row), own_below h.own hb (Nat.le_refl _), h.le.below hb, h.box.below hb h.box.lt, h.bel.trans (hb.mono h.bel.size)⟩
theorem Lg.long {w0 W : World} {base Lb gl m cl : Nat} {lv : List Int} {TL : List Tri} (h : Lg w0 base Lb gl m cl lv TL W) (hb : w0.heap.size < Lb) (j : Nat) (y : Int) : Lg w0 base Lb gl m cl (lv.set j y) TL (W.setCell ⟨Lb, j, none⟩ (.int .i64 y)) := by
  have hg := grownBy_set W Lb j (.int .i64 y)
  refine ⟨?_, h.own.kept hg (.inr (Obj.not_row h.row (by decide) h.own).symm), fun t ht => ⟨(h.le t ht).1.kept hg (.inr (Obj.not_row h.row (by decide) (h.le t ht).1).symm), (h.le t ht).2⟩, h.box.far (by omega) j _, below_put h.bel (by omega) j _⟩
  have := h.row.put j (.int .i64 y)
  rw [← List.map_set] at this
  exact this


set_option maxRecDepth 100000 in
set_option maxHeartbeats 8000000 in
theorem impl_BoundedCode_c (w : World) (A : Option Addr) (n cap : Nat) (ws : List Int) (hl : ws.length = n) (hn : n ≤ 1048576) (hx : Sl w w.heap.size A (ws.map (Value.int .i64))) (most : Int) :
    Calls Try.prog 6 #[.slice A n cap, .int .i64 most] w (BcPost w ws most) := by
  unfold BcPost
  obtain ⟨w1, e1⟩ : ∃ q : World, q = w.alloc (.cells #[.slice none 0 0] 24) := ⟨_, rfl⟩
  have b1 : Below w.heap.size w w1 := by rw [e1]; exact (Below.refl _ _).alloc (Nat.le_refl _) _
  have z1 : w.heap.size + 1 = w1.heap.size := by rw [e1]; simp
  have bx : Obj w1 w.heap.size 24 #[.slice none 0 0] := by rw [e1]; exact Obj.new _ _ _
  have c1 : w1.cell? ⟨w.heap.size, 0, none⟩ = some (.slice none 0 0) := bx.cell 0
  have f1 : w1.frozen? ⟨w.heap.size, 0, none⟩ = false := bx.frozen 0
  have HWC := Lib.hid (impl_areWeights_c w1 w1.heap.size A n cap ws hl hn ((hx.below b1).more b1.size))
  have B1 := Lib.hid b1
  have Z1 := Lib.hid z1
  have BX := Lib.hid bx
  have HX := Lib.hid hx
  clear hx b1 z1 bx
  have hfail : boundOk ws most = false → boundedV ws most = ([], false) := fun h => by unfold boundedV; rw [h]; rfl
  cases hw : weightsB ws
  · have hv := hfail (by unfold boundOk; rw [hw]; rfl)
    rw [hv]
    rw [hw] at HWC
    clear hw hfail
    go_enter Try.func6, Try.ntmps6
    go_wp2_with (rw [← e1]; clear e1)
    refine HWC.out.mono ?_
    rintro e w2 ⟨rfl, q, rfl⟩
    go_wp2
    refine bodyPost_ret (v := .tuple #[.agg #[.slice none 0 0], .bool false]) (by unfold results; rw [Try.results6]; go_simp) rfl ?_
    exact ⟨_, rfl, World.ownsRow_nil _ _ _ _, (below_drewN B1.out _).setCell (p := ⟨w.heap.size, 0, none⟩) (Nat.le_refl _) _⟩
  · rw [hw] at HWC
    cases hin : inB most 1 16
    · have hv := hfail (by unfold boundOk; rw [hw, hin]; rfl)
      rw [hv]
      have HIN := Lib.hid hin
      clear hw hfail hin
      go_enter Try.func6, Try.ntmps6
      go_wp2_with (rw [← e1]; clear e1)
      refine HWC.out.mono ?_
      rintro e w2 ⟨rfl, q, rfl⟩
      go_wp2_with (go_at_call 19; refine (impl_within_c _ _ _ _).mono ?_; rintro e w' ⟨rfl, rfl⟩; rw [HIN.out])
      refine bodyPost_ret (v := .tuple #[.agg #[.slice none 0 0], .bool false]) (by unfold results; rw [Try.results6]; go_simp) rfl ?_
      exact ⟨_, rfl, World.ownsRow_nil _ _ _ _, (below_drewN B1.out _).setCell (p := ⟨w.heap.size, 0, none⟩) (Nat.le_refl _) _⟩
    · have hm := inB_true.1 hin
      obtain ⟨K, rfl⟩ : ∃ K : Nat, most = (K : Int) := ⟨most.toNat, by omega⟩
      have hK1 : 1 ≤ K := by omega
      have hK16 : K ≤ 16 := by omega
      obtain ⟨p1, p2, p3⟩ := pow_le16 K hK16
      obtain ⟨PW, hPW⟩ : ∃ PW, (2 ^ K : Nat) = PW := ⟨_, rfl⟩
      rw [hPW] at p1 p2 p3
      have HIN := Lib.hid hin
      have P1 := Lib.hid p1
      have P2 := Lib.hid p2
      have HPW := Lib.hid hPW
      clear hin p1 p2 hPW
      have hw2 := hw
      unfold weightsB at hw2
      simp only [Bool.and_eq_true, decide_eq_true_eq] at hw2
      obtain ⟨⟨h1, h16⟩, _⟩ := hw2
      rw [hl] at h1 h16
      by_cases hle : n ≤ PW
      · have hok : boundOk ws (K : Int) = true := by
          unfold boundOk
          rw [hw, HIN.out, hl, Int.toNat_natCast, HPW.out, decide_eq_true hle]
          rfl
        have hgt : decide ((PW : Int) < (n : Int)) = false := decide_eq_false (by omega)
        by_cases hn1 : n = 1
        · have hlw : ws.length = 1 := by omega
          have hm : boundedL ws (K : Int) = [1] := by unfold boundedL; rw [if_pos hlw]
          have hv : boundedV ws (K : Int) = ([1], true) := by unfold boundedV; rw [hok, hm, hlw]; rfl
          rw [hv]
          subst hn1
          clear hw hfail hv hm hok hlw
          go_enter Try.func6, Try.ntmps6
          go_wp2_with (rw [← e1]; clear e1)
          refine HWC.out.mono ?_
          rintro e w2 ⟨rfl, q, rfl⟩
          have hq : ((1 : Int) == 1) = true := rfl
          have hz1 := Z1.out
          obtain ⟨w3, e3⟩ : ∃ q' : World, q' = (w1.drewN q).alloc (.cells #[.int .i64 1] 2) := ⟨_, rfl⟩
          have c3 : w3.cell? ⟨w.heap.size, 0, none⟩ = some (.slice none 0 0) := by rw [e3]; exact ((BX.out : Obj (w1.drewN q) _ _ _).alloc _).cell 0
          have f3 : w3.frozen? ⟨w.heap.size, 0, none⟩ = false := by rw [e3]; exact ((BX.out : Obj (w1.drewN q) _ _ _).alloc _).frozen 0
          have ho : w3.ownsRow w.heap.size 2 1 (.slice (some ⟨w1.heap.size, 0, none⟩) 1 1) 1 [.int .i64 1] := by rw [e3]; exact World.ownsRow_lit (e := 2) (size := 1) (w1.drewN q) #[.int .i64 1] 1 (base := w.heap.size) (by simp; omega) (by simp [maxLen]) rfl
          have b3 : Below w.heap.size w w3 := by rw [e3]; exact (below_drewN B1.out _).alloc (by simp; omega) _
          have HO := Lib.hid ho
          have B3 := Lib.hid b3
          clear ho b3 c1 f1
          go_wp2_with (first
            | (go_at_call 19; refine (impl_within_c _ _ _ _).mono ?_; rintro e w' ⟨rfl, rfl⟩; rw [HIN.out])
            | (rw [P1.out])
            | (rw [P2.out])
            | (rw [← e3]; clear e3))
          refine bodyPost_ret (v := .tuple #[.agg #[.slice (some ⟨w1.heap.size, 0, none⟩) 1 1], .bool true]) (by unfold results; rw [Try.results6]; go_simp) rfl ?_
          exact ⟨_, rfl, HO.out.kept (grownBy_set _ _ _ _) (.inr (by simp [Value.ownBlock]; omega)), B3.out.setCell (p := ⟨w.heap.size, 0, none⟩) (Nat.le_refl _) _⟩
        · have hm : boundedL ws (K : Int) = bLong n ((bRun ws (K - 1)).take (2 * n - 2)) := by unfold boundedL; rw [if_neg (by omega), hl, Int.toNat_natCast]
          have hv : boundedV ws (K : Int) = if codeB (boundedL ws (K : Int)) then (boundedL ws (K : Int), true) else ([], false) := by
            unfold boundedV
            rw [hok, Bool.true_and, show (ws.length == 1) = false by simp; omega, Bool.false_or]
          have hne1 : ((n : Int) == 1) = false := by simp; omega
          have HV := Lib.hid hv
          have HM := Lib.hid hm
          have HW := Lib.hid hw
          clear hw hfail hv hm hok c1 f1
          go_enter Try.func6, Try.ntmps6
          go_wp2_with (rw [← e1]; clear e1)
          refine HWC.out.mono ?_
          rintro e w2 ⟨rfl, q, rfl⟩
          obtain ⟨w2, e2⟩ : ∃ q' : World, q' = w1.drewN q := ⟨_, rfl⟩
          have B2 := Lib.hid (show Below w.heap.size w w2 by rw [e2]; exact below_drewN B1.out _)
          have BX2 := Lib.hid (show Obj w2 w.heap.size 24 #[.slice none 0 0] by rw [e2]; exact BX.out)
          have hz2 : w.heap.size + 1 = w2.heap.size := by rw [e2]; exact Z1.out
          rw [← e2]
          clear e2
          go_wp2_with (first
            | (go_at_call 19; refine (impl_within_c _ _ _ _).mono ?_; rintro e w' ⟨rfl, rfl⟩; rw [HIN.out])
            | (rw [P1.out])
            | (rw [P2.out]))
          refine (impl_bunchesOf_c w2 A n cap ws hl hn ((HX.out.below B2.out).more (by omega))).mono ?_
          rintro e w3 ⟨v, T0, rfl, hT0, hP0, ho0, hL0, hb3⟩
          obtain ⟨g0, c0, rfl, hg0, _⟩ := World.ownsRow.form ho0 (by omega)
          have hz3 := hb3.size
          have HS3 := Lib.hid (sortT_c w3 w2.heap.size g0 n c0 w2.heap.size T0 hT0 (by omega) ho0 hL0)
          have HP0 := Lib.hid hP0
          have bx3 := BX2.out.below hb3 (by omega)
          have B3 := Lib.hid (B2.out.trans (hb3.mono (by omega)))
          clear ho0 hL0 hP0 hb3
          go_wp2_with fail
          refine HS3.out.mono ?_
          rintro e w4 ⟨rfl, T1, hT1, hP1, ho1, hL1, hg4⟩
          rw [HP0.out] at hP1
          have hP1 : plainT T1 = bStart ws := hP1
          have hz4 := hg4.size
          have bt4 : Bt w w2.heap.size g0 n c0 T1 w4 := ⟨ho1, hL1, bx3.kept hg4 (by simp; omega), B3.out.grown hg4 (by omega) (fun k hk => by cases hk; omega)⟩
          have BT4 := Lib.hid bt4
          have HP1 := Lib.hid hP1
          have HT1 := Lib.hid hT1
          have HOK := Lib.hid (bRun_ok HW.out)
          clear ho1 hL1 hP1 hT1 bt4 bx3 hg4 HS3 HP0 B3 B2 BX2
          obtain ⟨K1, hK1e⟩ : ∃ K1, K - 1 = K1 := ⟨_, rfl⟩
          have hKw : (K : Int) - 1 = (K1 : Int) := by omega
          have hKw2 : wrap64 ((K : Int) - 1) = (K1 : Int) := by rw [IntWalk.wrap64_in _ (by omega)]; omega
          have hK15 : K1 ≤ 15 := by omega
          have HKE := Lib.hid hK1e
          clear hK1e
          go_wp2_with fail
          go_loopw [8, 44] (fun u i wr => ∃ (t m gl cl : Nat) (TL : List Tri), t ≤ K1 ∧ i = .int .i64 (t : Int) ∧ u = .slice (some ⟨gl, 0, none⟩) m cl ∧ TL.length = m ∧ Hid (plainT TL = bRun ws t) ∧ Hid (wr.ownsRow w2.heap.size 48 2 (.slice (some ⟨gl, 0, none⟩) m cl) m (fl2 (cellsT TL))) ∧ Hid (Let wr w2.heap.size TL) ∧ Hid (Bt w w2.heap.size g0 n c0 T1 wr)) (fun _ i _ => K1 - (RowKit.intOf i).toNat)
          case atStart => exact ⟨0, n, g0, c0, T1, Nat.zero_le _, rfl, rfl, HT1.out, HP1, Lib.hid BT4.out.row, Lib.hid BT4.out.le, BT4⟩
          case round =>
            obtain ⟨t, m, gl, cl, TL, ht, rfl, rfl, hTL, HPL, HOL, HLL, HBT⟩ := hrel
            obtain ⟨w5, rfl⟩ : ∃ w5 : World, w5 = wr := ⟨_, rfl⟩
            have hlen := bRun_len ws t
            rw [← HPL.out, hl] at hlen
            have hml : m = lenK n t := by rw [← hlen]; simp [plainT, hTL]
            have hlk := lenK_all n (by omega) t (by omega)
            rw [← hml] at hlk
            have hm31 : m ≤ 31 := hlk.1
            have HML := Lib.hid hml
            clear hlen hml hlk
            by_cases htK : t < K1
            · have HCL := Lib.hid (Clone_bunch_c w5 w2.heap.size g0 n c0 _ (by omega) HBT.out.row (cellsT_one HBT.out.le))
              go_wp2_with fail
              refine HCL.out.mono ?_
              rintro e w6 ⟨v6, rfl, ho6, hb6⟩
              obtain ⟨g6, c6, rfl, hg6, _⟩ := World.ownsRow.form ho6 (by omega)
              have hz6 := hb6.size
              have HO6 := Lib.hid ho6
              have HB6 := Lib.hid hb6
              clear ho6 hb6 HCL
              go_wp2_with fail
              go_loopw [9, 10] (fun u i wr => ∃ (j : Nat) (T2 : List Tri), 2 * j ≤ m ∧ i = .int .i64 ((2 * j : Nat) : Int) ∧ T2.length = j ∧ Hid (plainT T2 = (pairL (· ++ ·) (plainT TL)).take j) ∧ wr.ownsRow w5.heap.size 48 2 u (n + j) (fl2 (cellsT (T1 ++ T2))) ∧ Hid (Let wr w2.heap.size T2) ∧ Hid (Below w5.heap.size w5 wr)) (fun _ i _ => m + 2 - (RowKit.intOf i).toNat)
              case atStart => exact ⟨0, [], Nat.zero_le _, rfl, rfl, Lib.hid rfl, by rw [List.append_nil]; exact HO6.out, Lib.hid (fun t ht => by cases ht), HB6⟩
              case round =>
                clear HO6 HB6 hz6 hg6
                obtain ⟨j, T2, hj, rfl, hT2, HP2, ho7, HL2, HB7⟩ := hrel
                obtain ⟨w7, rfl⟩ : ∃ w7 : World, w7 = wr := ⟨_, rfl⟩
                have hz7 := HB7.out.size
                obtain ⟨P, hP⟩ : ∃ P, 2 * j = P := ⟨_, rfl⟩
                have hPm : P ≤ m := by omega
                rw [hP]
                by_cases hlt : P + 1 < m
                · obtain ⟨Q, hQ⟩ : ∃ Q, P + 1 = Q := ⟨_, rfl⟩
                  have hPl : P < TL.length := by omega
                  have hQl : Q < TL.length := by omega
                  have hol := own_below HOL.out HB7.out (Nat.le_refl _)
                  have hcP := fl2_at (cellsT TL) P (by simp [cellsT]; omega)
                  have hcQ := fl2_at (cellsT TL) Q (by simp [cellsT]; omega)
                  have hfl := fl2_len (cellsT TL)
                  have k0 := World.ownsRow.cellAt hol (P * 2) (by omega)
                  have k1 := World.ownsRow.cellAt hol (P * 2 + 1) (by omega)
                  have k2 := World.ownsRow.cellAt hol (Q * 2) (by omega)
                  have k3 := World.ownsRow.cellAt hol (Q * 2 + 1) (by omega)
                  rw [hcP.1] at k0
                  rw [hcP.2] at k1
                  rw [hcQ.1] at k2
                  rw [hcQ.2] at k3
                  have hLP := (HLL.out.below HB7.out) TL[P] (List.getElem_mem hPl)
                  have hLQ := (HLL.out.below HB7.out) TL[Q] (List.getElem_mem hQl)
                  have hpg := pairL_get (· ++ ·) (0, []) (plainT TL) j (by simp [plainT]; omega)
                  have eP : (plainT TL).getD (2 * j) (0, []) = (TL[P].1, TL[P].2.2) := by rw [hP]; simp [plainT, List.getD_eq_getElem?_getD, hPl]
                  have eQ : (plainT TL).getD (2 * j + 1) (0, []) = (TL[Q].1, TL[Q].2.2) := by rw [hP, hQ]; simp [plainT, List.getD_eq_getElem?_getD, hQl]
                  rw [eP, eQ] at hpg
                  have okP := HOK.out t (TL[P].1, TL[P].2.2) (by rw [← HPL.out]; exact List.mem_map_of_mem (f := fun t : Tri => (t.1, t.2.2)) (List.getElem_mem hPl))
                  have okQ := HOK.out t (TL[Q].1, TL[Q].2.2) (by rw [← HPL.out]; exact List.mem_map_of_mem (f := fun t : Tri => (t.1, t.2.2)) (List.getElem_mem hQl))
                  have gP : (cellsT TL)[P]'(by simp [cellsT]; omega) = (TL[P].1, TL[P].2.1) := by simp [cellsT]
                  have gQ : (cellsT TL)[Q]'(by simp [cellsT]; omega) = (TL[Q].1, TL[Q].2.1) := by simp [cellsT]
                  rw [gP] at k0 k1
                  rw [gQ] at k2 k3
                  obtain ⟨⟨x1, v1, l1⟩, ex1⟩ : ∃ z, TL[P] = z := ⟨_, rfl⟩
                  obtain ⟨⟨x2, v2, l2⟩, ex2⟩ : ∃ z, TL[Q] = z := ⟨_, rfl⟩
                  rw [ex1] at k0 k1 hLP hpg okP
                  rw [ex2] at k2 k3 hLQ hpg okQ
                  simp only at k0 k1 k2 k3 hLP hLQ hpg okP okQ
                  obtain ⟨g1, c1, rfl, _, _⟩ := World.ownsRow.form hLP.1 (by have := hLP.2; omega)
                  obtain ⟨g2, c2, rfl, _, _⟩ := World.ownsRow.form hLQ.1 (by have := hLQ.2; omega)
                  have hgl := (hol.lt gl rfl).2
                  have hpow : (2 ^ t : Nat) ≤ 32768 := Nat.le_trans (Nat.pow_le_pow_right (n := 2) (by decide) (show t ≤ 15 by omega)) (by decide)
                  obtain ⟨TP, hTP⟩ : ∃ TP, (2 ^ t : Nat) = TP := ⟨_, rfl⟩
                  unfold BOk at okP okQ
                  rw [hTP] at okP okQ hpow
                  simp only at okP okQ
                  obtain ⟨n1, hn1e⟩ : ∃ n1, l1.length = n1 := ⟨_, rfl⟩
                  obtain ⟨n2, hn2e⟩ : ∃ n2, l2.length = n2 := ⟨_, rfl⟩
                  rw [hn1e] at k1 hLP okP
                  rw [hn2e] at k3 hLQ okQ
                  have HJ := Lib.hid (impl_join_c w7.drew x1 x2 n1 c1 n2 c2 _ _ l1 l2 ⟨okP.1.1, by omega⟩ ⟨okQ.1.1, by omega⟩ hn1e hn2e (by omega) (by omega) (by omega) (by omega) (sl_of_own hLP.1) (sl_of_own hLQ.1))
                  have hN1 : 1 ≤ n1 + n2 := by omega
                  have hw1 : IntKind.i64.wrap ((P : Int) + 1) = (Q : Int) := by rw [IntWalk.i64_in _ (by omega)]; omega
                  have q0 : (P : Int) + 1 < (m : Int) := by omega
                  have q1 : (0 : Int) ≤ (P : Int) := by omega
                  have q2 : (P : Int) < (m : Int) := by omega
                  have q3 : (0 : Int) ≤ (Q : Int) := by omega
                  have q4 : (Q : Int) < (m : Int) := by omega
                  have hw2 : IntKind.i64.wrap (x1 + x2) = x1 + x2 := IntWalk.i64_in _ (by omega)
                  have HP := Lib.hid hP
                  have HQ := Lib.hid hQ
                  have HPG := Lib.hid hpg
                  have HO7 := Lib.hid ho7
                  have HN1 := Lib.hid hn1e
                  have HN2 := Lib.hid hn2e
                  clear hLP hLQ hpg okP okQ hP hQ ho7 hn1e hn2e hcP hcQ hfl hol gP gQ eP eQ ex1 ex2 hTP hpow hPl hQl
                  have hgl7 : gl < w7.heap.size := hgl
                  have hgl5 : gl < w5.heap.size := (HOL.out.lt gl rfl).2
                  have hz57 : w5.heap.size ≤ w7.heap.size := hz7
                  go_wp2_with fail
                  go_region_held3 (fun w' => (w'.cell? ⟨gl, P * 2, none⟩ = some (.int .i64 x1) ∧ w'.cell? ⟨gl, P * 2 + 1, none⟩ = some (.slice (some ⟨g1, 0, none⟩) n1 c1)) ∧ w'.cell? ⟨gl, Q * 2, none⟩ = some (.int .i64 x2) ∧ w'.cell? ⟨gl, Q * 2 + 1, none⟩ = some (.slice (some ⟨g2, 0, none⟩) n2 c2))
                    (first | exact ⟨⟨r0, r1⟩, r2, r3⟩ | exact ⟨⟨(cell_alloc_lt hgl8).trans m0, (cell_alloc_lt hgl8).trans m1⟩, (cell_alloc_lt hgl8).trans m2, (cell_alloc_lt hgl8).trans m3⟩ | exact ⟨⟨m0, m1⟩, m2, m3⟩ | exact ⟨⟨k0, k1⟩, k2, k3⟩ | fail)
                    (first
                      | (refine step_app1s (P := Try.prog) 2 (by decide) Try.underlying43 infoBunch (by rfl) (by decide) (by rfl) _ _ (by rfl) w5.heap.size _ _ _ (by rfl) (World.ownsRow.alloc ho8b _) _ _ _ (by rfl) (by rfl) (lit2_cells _ _ _ _) (by intro u' hu'; simp at hu'; rcases hu' with rfl | rfl <;> rfl) (by omega) (by simp; omega) ?_; intro v9 w9 ho9 hg9; have hb9 : Below w5.heap.size w8 w9 := ((Below.refl w5.heap.size w8).alloc (by omega) _).grown hg9 (by simp; omega) (fun k hk => (World.ownsRow.lt ho8b k hk).1); have r0 := (hb9.cell (p := ⟨gl, P * 2, none⟩) hgl5).trans m0; have r1 := (hb9.cell (p := ⟨gl, P * 2 + 1, none⟩) hgl5).trans m1; have r2 := (hb9.cell (p := ⟨gl, Q * 2, none⟩) hgl5).trans m2; have r3 := (hb9.cell (p := ⟨gl, Q * 2 + 1, none⟩) hgl5).trans m3)
                      | (go_at_call 24; refine HJ.out.mono ?_; rintro e w8 ⟨v8, rfl, ho8, hb8⟩; have hb8 := below_undrew hb8; obtain ⟨g8, c8, rfl, hg8, _⟩ := World.ownsRow.form ho8 hN1; have m0 := (hb8.cell (p := ⟨gl, P * 2, none⟩) hgl7).trans k0; have m1 := (hb8.cell (p := ⟨gl, P * 2 + 1, none⟩) hgl7).trans k1; have m2 := (hb8.cell (p := ⟨gl, Q * 2, none⟩) hgl7).trans k2; have m3 := (hb8.cell (p := ⟨gl, Q * 2 + 1, none⟩) hgl7).trans k3; have hz8 : w7.heap.size ≤ w8.heap.size := hb8.size; have hgl8 : gl < w8.heap.size := Nat.lt_of_lt_of_le hgl7 hz8; have ho8b := own_below HO7.out hb8 (Nat.le_refl _)))
                  have HO9 := Lib.hid ho9
                  have HG9 := Lib.hid hg9
                  have HB8 := Lib.hid hb8
                  have HO8 := Lib.hid ho8
                  have HB9 := Lib.hid hb9
                  have HO8B := Lib.hid ho8b
                  clear ho9 hg9 hb8 ho8 hb9 ho8b k0 k1 k2 k3 m0 m1 m2 m3 r0 r1 r2 r3 HJ
                  go_wp2
                  go_roundw
                  case rel =>
                    have hPj := HP.out
                    have hQj := HQ.out
                    have hbox := HBT.out.box.lt
                    have e3 : fl2 (cellsT (T1 ++ (T2 ++ [((x1 + x2, Value.slice (some ⟨g8, 0, none⟩) (n1 + n2) c8, l1 ++ l2) : Tri)]))) = fl2 (cellsT (T1 ++ T2)) ++ [Value.int .i64 (x1 + x2), .slice (some ⟨g8, 0, none⟩) (n1 + n2) c8] := by
                      unfold cellsT
                      rw [← List.append_assoc, List.map_append, fl2_app]
                      rfl
                    have hal : Below w8.heap.size w8 (w8.alloc (.cells #[.int .i64 (x1 + x2), .slice (some ⟨g8, 0, none⟩) (n1 + n2) c8] 48)) := (Below.refl _ _).alloc (Nat.le_refl _) _
                    have hra := World.ownsRow.alloc HO8B.out (.cells #[.int .i64 (x1 + x2), .slice (some ⟨g8, 0, none⟩) (n1 + n2) c8] 48)
                    refine ⟨j + 1, T2 ++ [(x1 + x2, .slice (some ⟨g8, 0, none⟩) (n1 + n2) c8, l1 ++ l2)], by omega, by go_num, by rw [List.length_append, hT2]; rfl, Lib.hid ?_, by rw [e3]; exact HO9.out, Lib.hid ?_, Lib.hid (HB7.out.trans ((HB8.out.mono hz57).trans HB9.out))⟩
                    · have hlt2 := (List.getElem?_eq_some_iff.1 HPG.out)
                      obtain ⟨hj2, hje⟩ := hlt2
                      rw [List.take_succ_eq_append_getElem hj2, hje, ← HP2.out]
                      simp [plainT]
                    · intro t ht
                      rcases List.mem_append.1 ht with ht | ht
                      · exact (((HL2.out.below HB8.out).below hal).grown hra (by decide) HG9.out) t ht
                      · obtain rfl := List.mem_singleton.1 ht
                        have h9 := World.ownsRow.alloc HO8.out (.cells #[.int .i64 (x1 + x2), .slice (some ⟨g8, 0, none⟩) (n1 + n2) c8] 48)
                        have h9 := World.ownsRow.kept h9 HG9.out (own_typesM h9 hra (by decide))
                        simp only
                        rw [List.length_append, HN1.out, HN2.out]
                        exact ⟨own_base h9 (show w2.heap.size ≤ w7.heap.size by omega), hN1⟩
                  case measure => simp [RowKit.intOf]; omega
                · obtain ⟨g7, c7, rfl, hg7, _⟩ := World.ownsRow.form ho7 (by omega)
                  obtain ⟨N, hN⟩ : ∃ N, n + j = N := ⟨_, rfl⟩
                  rw [hN] at ho7 ⊢
                  have hlt12 : (T1 ++ T2).length = N := by rw [List.length_append, HT1.out, hT2, hN]
                  have hbox := HBT.out.box.lt
                  have hLall : Let w7 w2.heap.size (T1 ++ T2) := by
                    intro t ht
                    rcases List.mem_append.1 ht with ht | ht
                    · exact (HBT.out.le.below HB7.out) t ht
                    · exact HL2.out t ht
                  have HSO := Lib.hid (sortT_c w7 w5.heap.size g7 N c7 w2.heap.size (T1 ++ T2) hlt12 (by omega) ho7 hLall)
                  have hg75 := (ho7.lt g7 rfl).1
                  have hpair : plainT (T1 ++ T2) = bStart ws ++ pairL (· ++ ·) (bRun ws t) := by
                    have h1 : plainT (T1 ++ T2) = plainT T1 ++ plainT T2 := by simp [plainT]
                    rw [h1, HP1.out, HP2.out, HPL.out, List.take_of_length_le]
                    rw [pairL_len, ← HPL.out]
                    have : (plainT TL).length = m := by simp [plainT, hTL]
                    omega
                  have HPR := Lib.hid hpair
                  have HP := Lib.hid hP
                  have HN := Lib.hid hN
                  have hd0 : decide ((P : Int) + 1 < (m : Int)) = false := decide_eq_false (by omega)
                  have hd1 : decide (P + 1 < m) = false := decide_eq_false hlt
                  clear ho7 hLall hpair hP hN HL2 HP2
                  go_wp2_with fail
                  refine HSO.out.mono ?_
                  rintro e w8 ⟨rfl, T8, hT8, hP8, ho8, hL8, hg8⟩
                  have HO8 := Lib.hid ho8
                  have HL8 := Lib.hid hL8
                  have HP8 := Lib.hid hP8
                  have HB8 : Hid (Below w5.heap.size w5 w8) := Lib.hid (HB7.out.grown hg8 (by omega) (fun k hk => by cases hk; omega))
                  clear ho8 hL8 hP8 hg8 HSO
                  go_wp2_with fail
                  go_roundw
                  case rel => exact ⟨t + 1, N, g7, c7, T8, by omega, by go_num, rfl, hT8, Lib.hid (by rw [HP8.out, HPR.out, ← (bRun_step ws t).2]), Lib.hid (own_base HO8.out (by omega)), HL8, Lib.hid (HBT.out.below HB8.out)⟩
                  case measure => simp [RowKit.intOf]; omega
            · have hte : t = K1 := by omega
              subst hte
              have hlk := lenK_all n (by omega) t (by omega)
              have hKt : K = t + 1 := by have := HKE.out; omega
              have hnp : n ≤ 2 ^ (t + 1) := by rw [← hKt, HPW.out]; exact hle
              have h2n := hlk.2 hnp
              rw [← HML.out] at h2n
              obtain ⟨M2, hM2⟩ : ∃ M2, 2 * n - 2 = M2 := ⟨_, rfl⟩
              rw [hM2] at h2n
              have hmcl : m ≤ cl := by
                rcases HOL.out.2 with ⟨h0, h1⟩ | ⟨g', cap', cur, hv, _, _, h1, _⟩
                · omega
                · injection hv with hv1 hv2 hv3
                  omega
              have hM2c : M2 ≤ cl := by omega
              have q1 : (2 : Int) * (n : Int) - 2 = (M2 : Int) := by omega
              have hz5 := HBT.out.box.lt
              have HM2 := Lib.hid hM2
              clear hlk hKt hnp hM2
              have hmk := fun W : World => run_mk (P := Try.prog) Try.underlying22 infoInt64 rfl (by decide) n (by omega) .i64 .i64 W
              go_wp2_with fail
              clear hmk
              obtain ⟨w6, e6⟩ : ∃ x : World, x = w5.alloc (.cells (zeroRow (.int .i64 0) n) 2) := ⟨_, rfl⟩
              have b6 : Below w5.heap.size w5 w6 := by rw [e6]; exact (Below.refl _ _).alloc (Nat.le_refl _) _
              have hl6 : Lg w w2.heap.size w5.heap.size gl m cl (bLong n ((bRun ws t).take 0)) TL w6 := by
                refine ⟨?_, own_below HOL.out b6 (Nat.le_refl _), HLL.out.below b6, HBT.out.box.below b6 hz5, HBT.out.bel.trans (b6.mono (Nat.le_of_lt hz5))⟩
                rw [e6]
                have : (bLong n ((bRun ws t).take 0)).map (Value.int .i64) = List.replicate n (.int .i64 0) := by simp [bLong]
                rw [this]
                exact Row.new w5 2 (.int .i64 0) n
              rw [← e6]
              have HL6 := Lib.hid hl6
              clear e6 b6 hl6
              have hPlen : (bRun ws t).length = m := by rw [← HPL.out]; simp [plainT, hTL]
              have HPLN := Lib.hid hPlen
              clear hPlen
              go_loopw [80] (fun i wr => ∃ z : Nat, z ≤ M2 ∧ i = .int .i64 (z : Int) ∧ Hid (Lg w w2.heap.size w5.heap.size gl m cl (bLong n ((bRun ws t).take z)) TL wr)) (fun i _ => M2 - (RowKit.intOf i).toNat)
              case atStart => exact ⟨0, Nat.zero_le _, rfl, HL6⟩
              case round =>
                obtain ⟨z, hz, rfl, HLG⟩ := hrel
                obtain ⟨w7, rfl⟩ : ∃ w7 : World, w7 = wr := ⟨_, rfl⟩
                by_cases hlz : z < M2
                · have hzl : z < TL.length := by omega
                  have hol := HLG.out.own
                  have hcz := fl2_at (cellsT TL) z (by simp [cellsT]; omega)
                  have hfl := fl2_len (cellsT TL)
                  have k0 := World.ownsRow.cellAt hol (z * 2) (by omega)
                  have k1 := World.ownsRow.cellAt hol (z * 2 + 1) (by omega)
                  have gz : (cellsT TL)[z]'(by simp [cellsT]; omega) = (TL[z].1, TL[z].2.1) := by simp [cellsT]
                  rw [hcz.1, gz] at k0
                  rw [hcz.2, gz] at k1
                  have hLZ := HLG.out.le TL[z] (List.getElem_mem hzl)
                  have hzm : z < (bRun ws t).length := by rw [HPLN.out]; omega
                  have ebz : (bRun ws t)[z] = (TL[z].1, TL[z].2.2) := by
                    have h := congrArg (fun l => l[z]?) HPL.out
                    simp only [plainT, List.getElem?_map, List.getElem?_eq_getElem hzl, List.getElem?_eq_getElem hzm] at h
                    exact (Option.some.inj h).symm
                  have okZ := HOK.out t _ (List.getElem_mem hzm)
                  have htk : (bRun ws t).take (z + 1) = (bRun ws t).take z ++ [(bRun ws t)[z]] := List.take_succ_eq_append_getElem hzm
                  have hbd := bLong_bd (n := n) (M := 2 ^ t) ((bRun ws t).take z) (fun r hr => ⟨(HOK.out t r (List.mem_of_mem_take hr)).2.1.2, by have := (HOK.out t r (List.mem_of_mem_take hr)).2.2; rwa [hl] at this⟩)
                  rw [ebz] at okZ htk
                  obtain ⟨⟨x1, v1, l1⟩, ex1⟩ : ∃ r, TL[z] = r := ⟨_, rfl⟩
                  rw [ex1] at k0 k1 hLZ okZ htk
                  simp only at k0 k1 hLZ okZ htk
                  obtain ⟨g1, c1, rfl, _, _⟩ := World.ownsRow.form hLZ.1 (by have := hLZ.2; omega)
                  have hpow : (2 ^ t : Nat) ≤ 32768 := Nat.le_trans (Nat.pow_le_pow_right (n := 2) (by decide) (show t ≤ 15 by omega)) (by decide)
                  have hstep : bLong n ((bRun ws t).take (z + 1)) = addL (bLong n ((bRun ws t).take z)) l1 := by rw [htk, bLong_snoc]
                  have hbl := bLong_len n ((bRun ws t).take z)
                  have htz : ((bRun ws t).take z).length = z := by rw [List.length_take, HPLN.out]; omega
                  rw [htz] at hbd
                  have hbd2 : ∀ j, 0 ≤ (bLong n ((bRun ws t).take z)).getD j 0 ∧ (bLong n ((bRun ws t).take z)).getD j 0 ≤ 1048576 := fun j => by
                    have h1 := hbd j
                    have h2 : z * 2 ^ t ≤ 31 * 32768 := Nat.mul_le_mul (by omega) hpow
                    omega
                  obtain ⟨lv, hlv⟩ : ∃ lv, bLong n ((bRun ws t).take z) = lv := ⟨_, rfl⟩
                  rw [hlv] at hstep hbl hbd2
                  have hll := okZ.2.1.2
                  have hlm := okZ.2.2
                  rw [hl] at hlm
                  have hl3 : l1.length ≤ 32768 := Nat.le_trans hll hpow
                  obtain ⟨n1, hn1e⟩ : ∃ n1, l1.length = n1 := ⟨_, rfl⟩
                  rw [hn1e] at k1 hLZ hl3
                  have HLV := Lib.hid hlv
                  have HSTP := Lib.hid hstep
                  have HLBD := Lib.hid hbd2
                  have HLM := Lib.hid hlm
                  have HN1 := Lib.hid hn1e
                  have HBL := Lib.hid hbl
                  have HOW := Lib.hid hLZ.1
                  clear hol hcz hfl gz hLZ hzm ebz okZ htk hbd hstep hbl htz hbd2 hlv hll hlm hn1e ex1 hpow hzl
                  have q2 : (0 : Int) ≤ (z : Int) := by omega
                  have q3 : (z : Int) < (M2 : Int) := by omega
                  go_wp2_with fail
                  go_loopw [87] (fun i wr => ∃ y : Nat, y ≤ n1 ∧ i = .int .i64 (y : Int) ∧ Hid (Lg w w2.heap.size w5.heap.size gl m cl (addL lv (l1.take y)) TL wr) ∧ Hid (wr.ownsRow w2.heap.size 3 1 (.slice (some ⟨g1, 0, none⟩) n1 c1) n1 (l1.map (Value.int .i64)))) (fun i _ => n1 - (RowKit.intOf i).toNat)
                  case atStart =>
                    have hal : Below w7.heap.size w7 (w7.alloc (.cells #[.int .i64 x1, .slice (some ⟨g1, 0, none⟩) n1 c1] 48)) := (Below.refl _ _).alloc (Nat.le_refl _) _
                    have hlg := HLG.out.below hal
                    rw [HLV.out] at hlg
                    refine ⟨0, Nat.zero_le _, rfl, Lib.hid hlg, Lib.hid ?_⟩
                    have h := own_below HOW.out hal (Nat.le_refl _)
                    exact h
                  case round =>
                    obtain ⟨y, hy, rfl, HLG2, HOW2⟩ := hrel
                    obtain ⟨w8, rfl⟩ : ∃ w8 : World, w8 = wr := ⟨_, rfl⟩
                    by_cases hly : y < n1
                    · have hyl : y < l1.length := by rw [HN1.out]; exact hly
                      have k4 := World.ownsRow.cellAt HOW2.out y (by omega)
                      rw [List.getElem?_map, List.getElem?_eq_getElem hyl] at k4
                      have hyb := HLM.out _ (List.getElem_mem hyl)
                      obtain ⟨b, hb⟩ : ∃ b : Nat, l1[y] = (b : Int) := ⟨(l1[y]).toNat, by omega⟩
                      have hsn : l1.take (y + 1) = l1.take y ++ [l1[y]] := List.take_succ_eq_append_getElem hyl
                      rw [hb] at hyb k4 hsn
                      simp only [Option.map_some] at k4
                      have hal : (addL lv (l1.take y)).length = n := by rw [addL_len, HBL.out]
                      have hsn2 : addL lv (l1.take (y + 1)) = (addL lv (l1.take y)).set b ((addL lv (l1.take y)).getD b 0 + 1) := by rw [hsn, addL_snoc]; simp
                      have hk2 : w8.cell? ⟨w5.heap.size, b, none⟩ = some (.int .i64 ((addL lv (l1.take y)).getD b 0)) := by
                        rw [HLG2.out.row.get (k := b) (by rw [List.length_map, hal]; omega)]
                        simp [List.getD, show b < (addL lv (l1.take y)).length by rw [hal]; omega]
                      have hk3 := HLG2.out.row.frz b
                      have hany := addL_any (l1.take y) lv (by
                        rw [HBL.out]
                        exact fun x hx => HLM.out x (List.mem_of_mem_take hx)) b
                      have hcl : (l1.take y).count (b : Int) ≤ 32768 := Nat.le_trans List.count_le_length (by rw [List.length_take]; omega)
                      have hlb := HLBD.out b
                      obtain ⟨a, ea⟩ : ∃ a, (addL lv (l1.take y)).getD b 0 = a := ⟨_, rfl⟩
                      rw [ea] at hany hsn2 hk2
                      have ha : 0 ≤ a ∧ a ≤ 2000000 := by omega
                      have q4 : (0 : Int) ≤ (b : Int) := by omega
                      have q5 : (b : Int) < (n : Int) := by omega
                      have hadd : IntKind.i64.wrap (a + 1) = a + 1 := IntWalk.i64_in _ (by omega)
                      have SL := Lib.hid (HLG2.out.long hz5 b (a + 1))
                      have OW := Lib.hid (HOW2.out.kept (grownBy_set w8 w5.heap.size b (.int .i64 (a + 1))) (.inr (Obj.not_row HLG2.out.row (by decide) HOW2.out).symm))
                      have HSN2 := Lib.hid hsn2
                      clear hsn hsn2 ea hal hany hcl hlb hyb hb hyl
                      go_wp2
                      go_roundw
                      case rel => exact ⟨y + 1, hly, by go_num, by rw [HSN2.out]; exact SL, OW⟩
                      case measure => simp [RowKit.intOf]; omega
                    · have hye : y = n1 := by omega
                      subst hye
                      have hall : l1.take y = l1 := List.take_of_length_le (Nat.le_of_eq HN1.out)
                      have HALL := Lib.hid hall
                      clear hall
                      go_wp2_with fail
                      go_roundw
                      case rel => exact ⟨z + 1, hlz, by go_num, Lib.hid (by rw [HSTP.out, ← HALL.out]; exact HLG2.out)⟩
                      case measure => simp [RowKit.intOf]; omega
                · have hze : z = M2 := by omega
                  subst hze
                  have hLe : boundedL ws (K : Int) = bLong n ((bRun ws t).take z) := by rw [HM.out, HKE.out, HM2.out]
                  have hlong := bLong_len n ((bRun ws t).take z)
                  rw [← hLe] at hlong
                  have hrow := HLG.out.row
                  rw [← hLe] at hrow
                  have HVV := HV.out
                  obtain ⟨L, eL⟩ : ∃ L, boundedL ws (K : Int) = L := ⟨_, rfl⟩
                  rw [eL] at hrow hlong HVV
                  have HV2 := Lib.hid HVV
                  have own := Row.own (base := w.heap.size) hrow (Nat.le_of_lt hz5) (by rw [List.length_map]; omega)
                  unfold Ow at own
                  rw [List.length_map, hlong] at own
                  have HA := Lib.hid (impl_asCode_c w7 _ n n L hlong hn (sl_of_own own))
                  have OWN := Lib.hid own
                  have c1 := HLG.out.box.cell 0
                  have f1 := HLG.out.box.frozen 0
                  have BB := Lib.hid HLG.out.bel
                  have hbl := HLG.out.box.lt
                  have BXX := Lib.hid HLG.out.box
                  clear own hrow eL HVV hLe
                  go_wp2_with fail
                  refine HA.out.mono ?_
                  rintro e w8 ⟨rfl, hb8⟩
                  have xx := BXX.out.below hb8 hbl
                  have d1 := xx.cell 0
                  have d2 := xx.frozen 0
                  have ow8 := own_below OWN.out hb8 (Nat.le_refl _)
                  have OW8 := Lib.hid (ow8.kept (grownBy_set w8 w.heap.size 0 (.slice (some ⟨w5.heap.size, 0, none⟩) n n)) (.inr (by simp [Value.ownBlock]; omega)))
                  have B8 := Lib.hid (BB.out.trans (hb8.mono BB.out.size))
                  clear ow8 xx c1 f1
                  cases hc : codeB L
                  · rw [hc] at HV2
                    unfold asV
                    go_wp2_with fail
                    refine bodyPost_ret (v := .tuple #[.agg #[.slice none 0 0], .bool false]) (by unfold results; rw [Try.results6]; go_simp) rfl ?_
                    refine ⟨_, by rw [HV2.out]; rfl, ?_, B8.out.setCell (p := ⟨w.heap.size, 0, none⟩) (Nat.le_refl _) _⟩
                    rw [HV2.out]
                    exact World.ownsRow_nil _ _ _ _
                  · rw [hc] at HV2
                    unfold asV
                    go_wp2_with fail
                    refine bodyPost_ret (v := .tuple #[.agg #[.slice (some ⟨w5.heap.size, 0, none⟩) n n], .bool true]) (by unfold results; rw [Try.results6]; go_simp) rfl ?_
                    refine ⟨_, by rw [HV2.out]; rfl, ?_, B8.out.setCell (p := ⟨w.heap.size, 0, none⟩) (Nat.le_refl _) _⟩
                    rw [HV2.out]
                    unfold Ow
                    rw [List.length_map]
                    show World.ownsRow _ _ _ _ _ L.length (L.map _)
                    rw [hlong]
                    exact OW8.out
      · have hok : boundOk ws (K : Int) = false := by
          unfold boundOk
          rw [hw, HIN.out, hl, Int.toNat_natCast, HPW.out, decide_eq_false hle]
          rfl
        have hv := hfail hok
        rw [hv]
        have hgt : decide ((PW : Int) < (n : Int)) = true := decide_eq_true (by omega)
        clear hw hfail hv hok
        go_enter Try.func6, Try.ntmps6
        go_wp2_with (rw [← e1]; clear e1)
        refine HWC.out.mono ?_
        rintro e w2 ⟨rfl, q, rfl⟩
        go_wp2_with (first
          | (go_at_call 19; refine (impl_within_c _ _ _ _).mono ?_; rintro e w' ⟨rfl, rfl⟩; rw [HIN.out])
          | (rw [P1.out])
          | (rw [P2.out]))
        refine bodyPost_ret (v := .tuple #[.agg #[.slice none 0 0], .bool false]) (by unfold results; rw [Try.results6]; go_simp) rfl ?_
        exact ⟨_, rfl, World.ownsRow_nil _ _ _ _, (below_drewN B1.out _).setCell (p := ⟨w.heap.size, 0, none⟩) (Nat.le_refl _) _⟩

end Go.Proofs.Ytkmfjadlobpbkaa
