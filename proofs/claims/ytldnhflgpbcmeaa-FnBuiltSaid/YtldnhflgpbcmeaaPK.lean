/-
  Contracts: rows in steps, of the reference.
  Conditions: at most 8 rows of at most 16 digits.
-/
import Derived.Test.YtldnhflgpbcmeaaPC
namespace Go.Proofs.Ytldnhflgpbcmeaa
open Go.RowKit

set_option maxRecDepth 100000 in
set_option maxHeartbeats 4000000 in
theorem spec_l06Steps_c (w : World) (m : Nat) (hm : m ≤ 16) (A : Option Addr) (n cap : Nat) (rows : List Int) (hl : rows.length = n) (hn1 : 1 ≤ n) (hn : n ≤ 8) (hx : Sl w w.heap.size A (rows.map (Value.int .i64))) :
    Calls Try.prog 67 #[.int .i64 (m : Int), .slice A n cap] w fun e w' => ∃ v, e = .returned (.tuple #[v, .int .i64 ((stepsOf m rows).2 : Int)]) ∧ Ow w' w.heap.size 2 v ((stepsOf m rows).1.map (Value.int .i64)) ∧ Below w.heap.size w w' := by
  go_enter Try.func67, Try.ntmps67
  go_wp2_with (at_builtin; refine appS Try.underlying25 infoInt64 rfl (by decide) rfl _ _ rfl _ _ [] rfl (own_empty _ _ _ (Nat.le_refl _)) _ _ n cap (rows.map (Value.int .i64)) rfl (by simpa using hl) (hx.alloc (Nat.le_refl _) _) one_int (by simp; omega) (by simp) ?_; intro v' w1 ho hb1)
  have hb : Below w.heap.size w w1 := ((Below.refl _ _).alloc (Nat.le_refl _) _).trans hb1
  have hz1 := hb.size
  rw [List.nil_append] at ho
  obtain ⟨S, k1, rfl, hp⟩ := ho.opn
  rw [hl] at hp ⊢
  obtain ⟨g, k0, hv, hbg, hgs⟩ := hp.form (by omega)
  injection hv with hv1 hv2 hv3
  subst hv1
  subst hv3
  clear hx ho
  go_loopw [7, 8] (fun q i wr => ∃ (mm kk : Nat) (rs : List Int), mm ≤ m ∧ q = .int .i64 (kk : Int) ∧ i = .int .i64 ((mm : Int) - 1) ∧ rs.length = n ∧ kk ≤ n ∧ wr.ownsRow w.heap.size 2 1 (.slice (some ⟨g, 0, none⟩) n k1) n (rs.map (Value.int .i64)) ∧ stepsGo mm (rs, kk) = stepsOf m rows ∧ Below w.heap.size w wr) (fun _ i _ => (intOf i + 1).toNat)
  case atStart => exact ⟨m, 0, rows, Nat.le_refl _, rfl, rfl, hl, by omega, hp, rfl, hb⟩
  case round =>
    clear hp hb hb1 hz1
    obtain ⟨mm, kk, rs, hmm, rfl, rfl, hrl, hkn, ho, hst, hbw⟩ := hrel
    obtain ⟨wo, rfl⟩ : ∃ wo : World, wo = wr := ⟨_, rfl⟩
    have HST := Lib.hid hst
    have HRL := Lib.hid hrl
    have hzw := hbw.size
    clear hst hrl
    rcases mm with _ | mm
    · rw [show (((0 : Nat) : Int) - 1) = -1 by rfl]
      go_wp2
      go_ret2
      refine ⟨_, by rw [← HST.out]; rfl, ?_, hbw⟩
      rw [← HST.out]
      unfold Ow
      simpa [stepsGo, HRL.out] using ho
    · rw [show (((mm + 1 : Nat) : Int) - 1) = (mm : Int) by omega]
      go_wp2
      go_loop [9] (fun a => ∃ at_ : Nat, kk ≤ at_ ∧ at_ ≤ n ∧ a = .int .i64 (at_ : Int) ∧ ∀ q, kk ≤ q → q < at_ → hasD (rs.getD q 0) mm = false) (fun a => n - (intOf a).toNat)
      case atStart => exact ⟨kk, Nat.le_refl _, hkn, rfl, fun q h1 h2 => by omega⟩
      case round =>
        obtain ⟨at_, hk1, hk2, rfl, hall⟩ := hrel
        have HALL := Lib.hid hall
        clear hall
        by_cases hat : at_ < n
        · have cj := row_cell ho hat
          cases hbb : hasD (rs.getD at_ 0) mm
          · obtain ⟨y, hy⟩ : ∃ y, rs.getD at_ 0 = y := ⟨_, rfl⟩
            have HB2 := Lib.hid hbb
            rw [hy] at cj hbb
            have HB := Lib.hid hbb
            clear hbb hy
            go_wp2_with (go_at_call 79; refine (spec_l06Has_c _ _ _ (by omega) (by omega)).mono ?_; rintro e w' ⟨rfl, rfl⟩; rw [HB.out])
            go_round
            case rel =>
              refine ⟨at_ + 1, by omega, by omega, by go_num, fun q h1 h2 => ?_⟩
              by_cases hq : q = at_
              · rw [hq]; exact HB2.out
              · exact HALL.out q h1 (by omega)
            case measure => first | (simp [intOf]; done) | (simp [intOf]; omega)
          · have hfa := findAt_eq (rows := rs) (i := mm) hk1 (by rw [HRL.out]; exact hat) HALL.out hbb
            have hns : stepsGo (mm + 1) (rs, kk) = stepsGo mm (elimK (swapL rs kk at_) mm kk n, kk + 1) := by
              rw [stepsGo]
              dsimp only
              rw [hfa, if_pos (by rw [HRL.out]; exact hat), HRL.out]
            rw [hns] at HST
            have HB := Lib.hid hbb
            obtain ⟨x, hx⟩ : ∃ x, rs.getD kk 0 = x := ⟨_, rfl⟩
            obtain ⟨y, hy⟩ : ∃ y, rs.getD at_ 0 = y := ⟨_, rfl⟩
            have hcx := row_cell ho (show kk < n by omega)
            rw [hx] at hcx
            rw [hy] at cj HB
            have hfz := ho.frozenAt kk
            have hfz2 := ho.frozenAt at_
            have hs1 := ho.stored at_ (.int .i64 x)
            have hs2 := hs1.1.stored kk (.int .i64 y)
            have hy3 : ∃ u, (wo.setCell ⟨g, at_, none⟩ (.int .i64 x)).cell? ⟨g, kk, none⟩ = some u := by
              have h1 : (wo.setCell ⟨g, at_, none⟩ (.int .i64 x)).cell? ⟨g, kk, none⟩ = ((rs.map (Value.int .i64)).set at_ (.int .i64 x))[kk]? := hs1.1.cellAt kk (by omega)
              rw [h1]
              exact ⟨_, List.getElem?_eq_getElem (by have := HRL.out; simp; omega)⟩
            obtain ⟨u, hy3⟩ := hy3
            have HS := Lib.hid hs2
            have HX := Lib.hid hx
            have HY := Lib.hid hy
            have e0 : ((at_ : Int) == (n : Int)) = false := by simp; omega
            clear hs1 hs2 hx hy hbb hns hfa
            go_wp2_with (go_at_call 79; refine (spec_l06Has_c _ _ _ (by omega) (by omega)).mono ?_; rintro e w' ⟨rfl, rfl⟩; rw [HB.out])
            obtain ⟨w3, hw3⟩ : ∃ w3 : World, w3 = (wo.setCell ⟨g, at_, none⟩ (.int .i64 x)).setCell ⟨g, kk, none⟩ (.int .i64 y) := ⟨_, rfl⟩
            rw [← hw3]
            have hB3 : Below w.heap.size w w3 := by rw [hw3]; exact (hbw.setCell (p := ⟨g, at_, none⟩) hbg _).setCell (p := ⟨g, kk, none⟩) hbg _
            have o3 : w3.ownsRow w.heap.size 2 1 (.slice (some ⟨g, 0, none⟩) n k1) n ((swapL rs kk at_).map (Value.int .i64)) := by
              rw [hw3, ← swapL_other, HX.out, HY.out, List.map_set, List.map_set]
              exact HS.out.1
            have hlen := swapL_len rs kk at_
            rw [HRL.out] at hlen
            obtain ⟨L0, hL0⟩ : ∃ L0, swapL rs kk at_ = L0 := ⟨_, rfl⟩
            rw [hL0] at o3 hlen HST
            have HLE := Lib.hid hlen
            have hkk : kk < n := by omega
            clear hw3 hL0 hcx cj hfz hfz2 hy3 ho hbw hlen
            go_loopw [11] (fun i wr => ∃ j : Nat, j ≤ n ∧ i = .int .i64 j ∧ wr.ownsRow w.heap.size 2 1 (.slice (some ⟨g, 0, none⟩) n k1) n ((elimK L0 mm kk j).map (Value.int .i64)) ∧ Below w.heap.size w wr) (fun i _ => n - (intOf i).toNat)
            case atStart => exact ⟨0, Nat.zero_le _, rfl, o3, hB3⟩
            case round =>
              clear o3 hB3
              obtain ⟨j, hj, rfl, o4, hB4⟩ := hrel
              by_cases hjn : j < n
              · have cj := row_cell o4 hjn
                have ck := row_cell o4 hkk
                have hst4 := o4.stored j (.int .i64 (xorI ((elimK L0 mm kk j).getD j 0) ((elimK L0 mm kk j).getD kk 0)))
                have hfj := o4.frozenAt j
                by_cases hjk : j = kk
                · have hsk := elimK_skip (rows := L0) (i := mm) (k := kk) (j := j) (.inl hjk)
                  have e1 : ((j : Int) == (kk : Int)) = true := by simp; omega
                  have e2 : ((j : Int) != (kk : Int)) = false := by simp; omega
                  have HSK := Lib.hid hsk
                  clear hsk cj ck hst4 hfj hjk
                  go_wp2
                  go_roundw
                  case rel => exact ⟨j + 1, by omega, by go_num, by rw [HSK.out]; exact o4, hB4⟩
                  case measure => first | (simp [intOf]; done) | (simp [intOf]; omega)
                · have e1 : ((j : Int) == (kk : Int)) = false := by simp; omega
                  have e2 : ((j : Int) != (kk : Int)) = true := by simp; omega
                  cases hbb : hasD ((elimK L0 mm kk j).getD j 0) mm
                  · have hsk := elimK_skip (rows := L0) (i := mm) (k := kk) (j := j) (.inr hbb)
                    have HSK := Lib.hid hsk
                    obtain ⟨y2, hy2⟩ : ∃ y2, (elimK L0 mm kk j).getD j 0 = y2 := ⟨_, rfl⟩
                    rw [hy2] at hbb cj
                    have HB := Lib.hid hbb
                    clear hsk ck hst4 hfj hjk hbb hy2
                    go_wp2_with (go_at_call 79; refine (spec_l06Has_c _ _ _ (by omega) (by omega)).mono ?_; rintro e w' ⟨rfl, rfl⟩; rw [HB.out])
                    go_roundw
                    case rel => exact ⟨j + 1, by omega, by go_num, by rw [HSK.out]; exact o4, hB4⟩
                    case measure => first | (simp [intOf]; done) | (simp [intOf]; omega)
                  · have hdo := elimK_do (rows := L0) (i := mm) (k := kk) (j := j) hjk hbb
                    have HDO := Lib.hid hdo
                    obtain ⟨y2, hy2⟩ : ∃ y2, (elimK L0 mm kk j).getD j 0 = y2 := ⟨_, rfl⟩
                    rw [hy2] at hbb cj hst4
                    have HB := Lib.hid hbb
                    have HY2 := Lib.hid hy2
                    have HS4 := Lib.hid hst4
                    clear hdo hst4 hjk hbb hy2
                    go_wp2_with (go_at_call 79; refine (spec_l06Has_c _ _ _ (by omega) (by omega)).mono ?_; rintro e w' ⟨rfl, rfl⟩; rw [HB.out])
                    refine wp_region_rel_lit_tail (fun _ _ _ => False) 12 (by kernel_rfl) (by kernel_rfl) ?_
                    simp only [List.take_succ_cons, List.take_zero, List.drop_succ_cons, List.drop_zero]
                    iterate 12 (refine wpRel_step (fun K hK => ?_); go_simp; (try intro n1); refine hK _ ?_; clear hK K)
                    refine wpRel_nil ?_
                    intro nq
                    go_wp2
                    go_roundw
                    case rel =>
                      refine ⟨j + 1, by omega, by go_num, ?_, (below_drewN hB4 _).setCell (p := ⟨g, j, none⟩) hbg _⟩
                      rw [HDO.out, List.map_set, HY2.out]
                      exact HS4.out.1
                    case measure => first | (simp [intOf]; done) | (simp [intOf]; omega)
              · have : j = n := by omega
                subst this
                go_wp2
                go_roundw
                case rel => exact ⟨mm, kk + 1, elimK L0 mm kk j, by omega, by go_num, rfl, by rw [elimK_len]; exact HLE.out, by omega, o4, HST.out, hB4⟩
                case measure => first | (simp [intOf]; done) | (simp [intOf]; omega)
        · have : at_ = n := by omega
          subst this
          have hfa := findAt_none (rows := rs) (i := mm) (k := kk) (by rw [HRL.out]; exact hkn) (fun q h1 h2 => HALL.out q h1 (by rw [HRL.out] at h2; exact h2))
          have hns : stepsGo (mm + 1) (rs, kk) = stepsGo mm (rs, kk) := by
            rw [stepsGo]
            dsimp only
            rw [hfa, if_neg (by omega)]
          rw [hns] at HST
          clear hfa hns
          go_wp2
          go_roundw
          case rel => exact ⟨mm, kk, rs, by omega, rfl, rfl, HRL.out, hkn, ho, HST.out, hbw⟩
          case measure => first | (simp [intOf]; done) | (simp [intOf]; omega)

end Go.Proofs.Ytldnhflgpbcmeaa
