/-
  Contracts: rows in steps, of the program and of the reference.
  Conditions: at most 8 rows of at most 16 digits.
-/
import Derived.Test.YtldnhflgpbcmeaaPB
import Derived.RegionTactic
import Derived.ChangeAlike
namespace Go.Proofs.Ytldnhflgpbcmeaa
open Go.RowKit

/-- the number in a box, and one more -/
def boxN (w : World) (p : Value) : Nat := match p with
  | .pointer (some a) => match w.cell? a with
    | some (.int _ i) => (i + 1).toNat
    | _ => 0
  | _ => 0
theorem boxN_eq {w : World} {b : Nat} {i : Int} (h : w.cell? ⟨b, 0, none⟩ = some (.int .i64 i)) : boxN w (.pointer (some ⟨b, 0, none⟩)) = (i + 1).toNat := by simp [boxN, h]
theorem Sl.dropped {w : World} {B g k : Nat} {xs : List Value} (h : Sl w B (some ⟨g, 0, none⟩) xs) : Sl w B (some ⟨g, k, none⟩) (xs.drop k) := by
  rcases h with rfl | ⟨b, off, e, hb, hc⟩
  · simp [Sl]
  · obtain ⟨rfl, rfl⟩ : g = b ∧ 0 = off := by simpa using e
    refine .inr ⟨g, k, rfl, hb, fun j u hu => ?_⟩
    have h2 := hc (k + j) u (by rw [List.getElem?_drop] at hu; exact hu)
    simpa using h2
theorem own_cap {w : World} {base n cap : Nat} {e : TypeId} {A : Option Addr} {xs : List Value} (h : w.ownsRow base e 1 (.slice A n cap) n xs) (hn : 1 ≤ n) : n ≤ cap := by
  rcases h.2 with ⟨_, h0⟩ | ⟨g, cap', cur, he, _, _, hc, _⟩
  · omega
  · injection he with _ _ h3
    omega
theorem idx_some {rows : List Int} {i : Int} {k : Nat} (h : findAt rows i k < rows.length) : idxI (fun r => hasD r i) (rows.drop k) = ((findAt rows i k - k : Nat) : Int) := by
  unfold idxI
  unfold findAt at h ⊢
  rw [if_pos (by rw [List.length_drop]; omega)]
  omega
theorem idx_none {rows : List Int} {i : Int} {k : Nat} (hk : k ≤ rows.length) (h : ¬ findAt rows i k < rows.length) : idxI (fun r => hasD r i) (rows.drop k) = -1 := by
  unfold idxI
  unfold findAt at h
  rw [if_neg (by rw [List.length_drop]; omega)]

theorem impl_hasDigit_at {w : World} {x i : Int} {bb : Bool} {q : Nat} (hb : hasD x i = bb) (h0 : 0 ≤ i) (h1 : i ≤ 63) : Calls Try.prog 32 #[.int .i64 x, .int .i64 i] (w.drewN q) fun e w' => e = .returned (.bool bb) ∧ ∃ k, w' = w.drewN k := by
  refine (impl_hasDigit_c _ x i h0 h1).mono ?_
  rintro e w' ⟨rfl, rfl⟩
  exact ⟨ret_bool hb, _, rfl⟩
theorem elimK_skip {rows : List Int} {i : Int} {k j : Nat} (h : j = k ∨ hasD ((elimK rows i k j).getD j 0) i = false) : elimK rows i k (j + 1) = elimK rows i k j := by
  rw [elimK, if_neg]
  rintro ⟨h1, h2⟩
  rcases h with h | h
  · exact h1 h
  · rw [h] at h2; cases h2
theorem elimK_do {rows : List Int} {i : Int} {k j : Nat} (h : j ≠ k) (h2 : hasD ((elimK rows i k j).getD j 0) i = true) : elimK rows i k (j + 1) = (elimK rows i k j).set j (xorI ((elimK rows i k j).getD j 0) ((elimK rows i k j).getD k 0)) := by
  rw [elimK, if_pos ⟨h, h2⟩]
/-- the cell of a row of numbers, by getD -/
theorem row_cell {w : World} {base g n cap : Nat} {l : List Int} (h : w.ownsRow base 2 1 (.slice (some ⟨g, 0, none⟩) n cap) n (l.map (Value.int .i64))) {j : Nat} (hj : j < n) : w.cell? ⟨g, j, none⟩ = some (.int .i64 (l.getD j 0)) := by
  have hl : l.length = n := by simpa using h.1
  rw [h.cellAt j (by omega)]
  simp [List.getD, show j < l.length by omega]


set_option maxRecDepth 100000 in
set_option maxHeartbeats 4000000 in
theorem impl_echelon_c (w : World) (m : Nat) (hm : m ≤ 16) (A : Option Addr) (n cap : Nat) (rows : List Int) (hl : rows.length = n) (hn1 : 1 ≤ n) (hn : n ≤ 8) (hx : Sl w w.heap.size A (rows.map (Value.int .i64))) :
    Calls Try.prog 43 #[.int .i64 (m : Int), .slice A n cap] w fun e w' => ∃ v, e = .returned (.tuple #[v, .int .i64 ((stepsOf m rows).2 : Int)]) ∧ Ow w' w.heap.size 2 v ((stepsOf m rows).1.map (Value.int .i64)) ∧ Below w.heap.size w w' := by
  go_enter Try.func43, Try.ntmps43
  go_wp2_with fail
  refine (Clone_i64_c _ A n cap rows hl (by omega) hx).mono ?_
  rintro e w1 ⟨v, rfl, ho, hb⟩
  have hz1 := hb.size
  obtain ⟨S, k1, rfl, hp⟩ := ho.opn
  clear ho
  rw [hl] at hp ⊢
  obtain ⟨g, k0, hv, hbg, hgs⟩ := hp.form (by omega)
  injection hv with hv1 hv2 hv3
  subst hv1
  subst hv3
  clear hx
  go_wp2
  go_loopw [7, 8] (fun q p wr => ∃ (mm kk b : Nat) (rs : List Int), mm ≤ m ∧ q = .int .i64 (kk : Int) ∧ p = .pointer (some ⟨b, 0, none⟩) ∧ wr.cell? ⟨b, 0, none⟩ = some (.int .i64 ((mm : Int) - 1)) ∧ wr.frozen? ⟨b, 0, none⟩ = false ∧ g < b ∧ b < wr.heap.size ∧ rs.length = n ∧ kk ≤ n ∧ wr.ownsRow w.heap.size 2 1 (.slice (some ⟨g, 0, none⟩) n k1) n (rs.map (Value.int .i64)) ∧ stepsGo mm (rs, kk) = stepsOf m rows ∧ Below w.heap.size w wr) (fun _ p wr => boxN wr p)
  case atStart =>
    refine ⟨m, 0, w1.heap.size, rows, Nat.le_refl _, rfl, rfl, cell_new1 _ _ _, by simp, hgs, by simp, hl, by omega, hp.alloc _, rfl, hb.alloc hz1 _⟩
  case round =>
    obtain ⟨mm, kk, b, rs, hmm, rfl, rfl, hc, hf, hgb, hbs, hrl, hkn, ho, hst, hbw⟩ := hrel
    obtain ⟨wo, rfl⟩ : ∃ wo : World, wo = wr := ⟨_, rfl⟩
    have HST := Lib.hid hst
    have HRL := Lib.hid hrl
    have hzw := hbw.size
    have hmeas := boxN_eq hc
    have HME := Lib.hid hmeas
    clear hst hrl hmeas
    rcases mm with _ | mm
    · have hc0 : wo.cell? ⟨b, 0, none⟩ = some (.int .i64 (-1)) := by simpa using hc
      clear hc
      go_wp2
      go_ret2
      refine ⟨_, by rw [← HST.out]; rfl, ?_, hbw⟩
      rw [← HST.out]
      unfold Ow
      simpa [stepsGo, HRL.out] using ho
    · have hc0 : wo.cell? ⟨b, 0, none⟩ = some (.int .i64 (mm : Int)) := by rw [hc]; congr 2; omega
      clear hc
      by_cases hkk : kk < n
      · have hT : TestsI 56 #[.pointer (some ⟨b, 0, none⟩)] (fun r => hasD r mm) wo (rs.drop kk) := ⟨by intro args W; rfl, fun u _ q => (echelon1_c (wo.drewN q) b u mm (by omega) (by omega) hc0)⟩
        have HT := Lib.hid hT
        have hcp := own_cap ho hn1
        have hne : ¬ k1 = kk := by omega
        have hsl := Sl.dropped (k := kk) (sl_of_own ho)
        rw [← List.map_drop] at hsl
        clear hT
        go_wp2_with fail
        refine (IndexFunc_i64_c wo wo.heap.size (some ⟨g, kk, none⟩) (n - kk) (k1 - kk) (rs.drop kk) (by rw [List.length_drop, HRL.out]) (by omega) hsl _ _ _ HT.out).mono ?_
        rintro e w' ⟨rfl, q, rfl⟩
        by_cases hat : findAt rs mm kk < rs.length
        · rw [idx_some hat]
          have hfb := findAt_bd rs mm kk (by rw [HRL.out]; omega)
          have hns : stepsGo (mm + 1) (rs, kk) = stepsGo mm (elimK (swapL rs kk (findAt rs mm kk)) mm kk n, kk + 1) := by
            rw [stepsGo]
            dsimp only
            rw [if_pos hat, HRL.out]
          rw [hns] at HST
          obtain ⟨d, hd⟩ : ∃ d, findAt rs mm kk = kk + d := ⟨findAt rs mm kk - kk, by omega⟩
          rw [hd] at hat HST hfb ⊢
          rw [show kk + d - kk = d by omega]
          clear hns hd
          rw [HRL.out] at hat
          have hrl := HRL.out
          obtain ⟨x, hx⟩ : ∃ x, rs.getD kk 0 = x := ⟨_, rfl⟩
          obtain ⟨y, hy⟩ : ∃ y, rs.getD (kk + d) 0 = y := ⟨_, rfl⟩
          have hcx : wo.cell? ⟨g, kk, none⟩ = some (.int .i64 x) := by rw [ho.cellAt kk (by omega)]; simp [← hx, List.getD, show kk < rs.length by omega]
          have hcy : wo.cell? ⟨g, kk + d, none⟩ = some (.int .i64 y) := by rw [ho.cellAt (kk + d) (by omega)]; simp [← hy, List.getD, show kk + d < rs.length by omega]
          have hfz := ho.frozenAt kk
          have hfz2 := ho.frozenAt (kk + d)
          have hs1 := ho.stored kk (.int .i64 y)
          have hs2 := hs1.1.stored (kk + d) (.int .i64 x)
          have hsw : IntKind.i64.wrap ((kk : Int) + (d : Int)) = (kk : Int) + (d : Int) := IntWalk.i64_in _ (by omega)
          have hs3 : (0 : Int) ≤ (kk : Int) + (d : Int) := by omega
          have hs4 : (kk : Int) + (d : Int) < (n : Int) := by omega
          have hs5 : ((kk : Int) + (d : Int)).toNat = kk + d := by omega
          have hy3 : ∃ u, ((wo.drewN (q + 1)).setCell ⟨g, kk, none⟩ (.int .i64 y)).cell? ⟨g, kk + d, none⟩ = some u := by
            have h1 : ((wo.drewN (q + 1)).setCell ⟨g, kk, none⟩ (.int .i64 y)).cell? ⟨g, kk + d, none⟩ = ((rs.map (Value.int .i64)).set kk (.int .i64 y))[kk + d]? := hs1.1.cellAt (kk + d) (by simp; omega)
            rw [h1]
            exact ⟨_, List.getElem?_eq_getElem (by simp; omega)⟩
          obtain ⟨u, hy3⟩ := hy3
          have HS := Lib.hid hs2
          have HX := Lib.hid hx
          have HY := Lib.hid hy
          clear hs1 hs2 hsl hx hy hrl HT
          go_wp2_with fail
          go_region
          obtain ⟨w3, hw3⟩ : ∃ w3 : World, w3 = ((wo.drewN (q + 1)).setCell ⟨g, kk, none⟩ (.int .i64 y)).setCell ⟨g, kk + d, none⟩ (.int .i64 x) := ⟨_, rfl⟩
          rw [← hw3]
          have c3 : w3.cell? ⟨b, 0, none⟩ = some (.int .i64 (mm : Int)) := by
            rw [hw3, World.cell?_setCell_far _ _ _ _ (by simp; omega), World.cell?_setCell_far _ _ _ _ (by simp; omega)]
            exact hc0
          have f3 : w3.frozen? ⟨b, 0, none⟩ = false := by rw [hw3, frozen_set, frozen_set]; exact hf
          have hB3 : Below w.heap.size w w3 := by rw [hw3]; exact ((below_drewN hbw _).setCell (p := ⟨g, kk, none⟩) hbg _).setCell (p := ⟨g, kk + d, none⟩) hbg _
          have z3 : b < w3.heap.size := by rw [hw3]; simpa using hbs
          have o3 : w3.ownsRow w.heap.size 2 1 (.slice (some ⟨g, 0, none⟩) n k1) n ((swapL rs kk (kk + d)).map (Value.int .i64)) := by
            rw [hw3, swapL, HX.out, HY.out, List.map_set, List.map_set]
            exact HS.out.1
          have hlen := swapL_len rs kk (kk + d)
          rw [HRL.out] at hlen
          obtain ⟨L0, hL0⟩ : ∃ L0, swapL rs kk (kk + d) = L0 := ⟨_, rfl⟩
          rw [hL0] at o3 hlen HST
          clear hw3 hL0 hcx hcy hfz hfz2 hy3 ho hc0 hf hbs hbw hsw hs3 hs4 hs5
          have HLE := Lib.hid hlen
          clear hlen
          go_wp2
          go_loopw [52] (fun i wr => ∃ j : Nat, j ≤ n ∧ i = .int .i64 j ∧ wr.ownsRow w.heap.size 2 1 (.slice (some ⟨g, 0, none⟩) n k1) n ((elimK L0 mm kk j).map (Value.int .i64)) ∧ wr.cell? ⟨b, 0, none⟩ = some (.int .i64 (mm : Int)) ∧ wr.frozen? ⟨b, 0, none⟩ = false ∧ b < wr.heap.size ∧ Below w.heap.size w wr) (fun i _ => n - (intOf i).toNat)
          case atStart => exact ⟨0, Nat.zero_le _, rfl, o3, c3, f3, z3, hB3⟩
          case round =>
            clear o3 c3 f3 z3 hB3
            obtain ⟨j, hj, rfl, o4, c4, f4, z4, hB4⟩ := hrel
            by_cases hjn : j < n
            · have cj := row_cell o4 hjn
              have ck := row_cell o4 hkk
              have hst4 := o4.stored j (.int .i64 (xorI ((elimK L0 mm kk j).getD j 0) ((elimK L0 mm kk j).getD kk 0)))
              have hfj := o4.frozenAt j
              by_cases hjk : j = kk
              · have hsk := elimK_skip (rows := L0) (i := mm) (k := kk) (j := j) (.inl hjk)
                have e1 : ((j : Int) == (kk : Int)) = true := by simp; omega
                have e2 : ((j : Int) != (kk : Int)) = false := by simp; omega
                have HSK := Lib.hid hsk
                clear hsk cj ck hst4 hfj hjk
                go_wp2
                go_quiet (fail)
                go_wp2
                go_roundw
                case rel => exact ⟨j + 1, by omega, by go_num, by rw [HSK.out]; exact o4, c4, f4, z4, below_drewN hB4 _⟩
                case measure => simp [intOf]; omega
              · have e1 : ((j : Int) == (kk : Int)) = false := by simp; omega
                have e2 : ((j : Int) != (kk : Int)) = true := by simp; omega
                cases hbb : hasD ((elimK L0 mm kk j).getD j 0) mm
                · have hsk := elimK_skip (rows := L0) (i := mm) (k := kk) (j := j) (.inr hbb)
                  have HSK := Lib.hid hsk
                  have HB := Lib.hid hbb
                  clear hsk ck hst4 hfj hjk hbb
                  go_wp2
                  go_quiet ((go_at_call 32; exact impl_hasDigit_at HB.out (by omega) (by omega)))
                  go_wp2
                  go_roundw
                  case rel => exact ⟨j + 1, by omega, by go_num, by rw [HSK.out]; exact o4, c4, f4, z4, below_drewN hB4 _⟩
                  case measure => simp [intOf]; omega
                · have hdo := elimK_do (rows := L0) (i := mm) (k := kk) (j := j) hjk hbb
                  have HDO := Lib.hid hdo
                  have HB := Lib.hid hbb
                  have HS4 := Lib.hid hst4
                  clear hdo hst4 hjk hbb
                  go_wp2
                  go_quiet ((go_at_call 32; exact impl_hasDigit_at HB.out (by omega) (by omega)))
                  go_wp2_with fail
                  refine wp_region_rel_lit_tail (fun _ _ _ => False) 10 (by kernel_rfl) (by kernel_rfl) ?_
                  simp only [List.take_succ_cons, List.take_zero, List.drop_succ_cons, List.drop_zero]
                  iterate 10 (refine wpRel_step (fun K hK => ?_); go_simp; (try intro n1); refine hK _ ?_; clear hK K)
                  refine wpRel_nil ?_
                  intro nq
                  go_wp2
                  go_roundw
                  case rel =>
                    refine ⟨j + 1, by omega, by go_num, ?_, ?_, ?_, ?_, ?_⟩
                    · rw [HDO.out, List.map_set]
                      exact HS4.out.1
                    · rw [World.cell?_setCell_far _ _ _ _ (by simp; omega)]; exact c4
                    · rw [frozen_set]; exact f4
                    · simpa using z4
                    · exact (below_drewN hB4 _).setCell (p := ⟨g, j, none⟩) hbg _
                  case measure => simp [intOf]; omega
            · have : j = n := by omega
              subst this
              go_wp2
              go_roundw
              case rel =>
                refine ⟨mm, kk + 1, _, elimK L0 mm kk j, by omega, by go_num, rfl, ?_, ?_, ?_, ?_, ?_, by omega, ?_, HST.out, ?_⟩
                · exact cell_new1 _ _ _
                · simp
                · omega
                · simp
                · rw [elimK_len]; exact HLE.out
                · exact o4.alloc _
                · exact hB4.alloc hB4.size _
              case measure => rw [boxN_eq (cell_new1 _ _ _), HME.out]; omega
        · rw [idx_none (by rw [HRL.out]; omega) hat]
          have hns : stepsGo (mm + 1) (rs, kk) = stepsGo mm (rs, kk) := by
            rw [stepsGo]
            dsimp only
            rw [if_neg hat]
          rw [hns] at HST
          obtain ⟨w5, e5⟩ : ∃ w5 : World, w5 = wo.drewN q := ⟨_, rfl⟩
          rw [← e5]
          have c5 : w5.cell? ⟨b, 0, none⟩ = some (.int .i64 (mm : Int)) := by rw [e5]; exact hc0
          have f5 : w5.frozen? ⟨b, 0, none⟩ = false := by rw [e5]; exact hf
          have o5 : w5.ownsRow w.heap.size 2 1 (.slice (some ⟨g, 0, none⟩) n k1) n (rs.map (Value.int .i64)) := by rw [e5]; exact ho
          have hB5 : Below w.heap.size w w5 := by rw [e5]; exact below_drewN hbw q
          have z5 : b < w5.heap.size := by rw [e5]; simpa using hbs
          clear hns hat hsl HT e5 hc0 hf ho hbw hbs
          go_wp2
          go_roundw
          case rel =>
            refine ⟨mm, kk, _, rs, by omega, rfl, rfl, ?_, ?_, ?_, ?_, HRL.out, hkn, ?_, HST.out, ?_⟩
            · exact cell_new1 _ _ _
            · simp
            · omega
            · simp
            · exact o5.alloc _
            · exact hB5.alloc hB5.size _
          case measure => rw [boxN_eq (cell_new1 _ _ _), HME.out]; omega
      · have : kk = n := by omega
        subst this
        go_wp2
        go_ret2
        have hfull := stepsGo_full (mm + 1) rs
        rw [HRL.out] at hfull
        have h2 := HST.out
        rw [hfull] at h2
        refine ⟨_, by rw [← h2]; rfl, ?_, hbw⟩
        rw [← h2]
        unfold Ow
        simpa [HRL.out] using ho

end Go.Proofs.Ytldnhflgpbcmeaa
