/-
  Contracts: the reference's PolarBest.
  Conditions: none.
-/
import Derived.Test.YtlcdcicdlfakgaaKD
namespace Go.Proofs.Ytlcdcicdlfakgaa
open Go.RowKit

def takR (q : Nat → Nat) (n k : Nat) : List Bool := (List.range n).map (takenB q k)
theorem takR_len (q : Nat → Nat) (n k : Nat) : (takR q n k).length = n := by simp [takR]
theorem takR_zero (q : Nat → Nat) (n : Nat) : takR q n 0 = List.replicate n false := by
  unfold takR
  apply List.ext_getElem (by simp)
  intro i h1 h2
  simp [takenB]
theorem takR_succ (q : Nat → Nat) (n k : Nat) : takR q n (k + 1) = (takR q n k).set (q k) true := by
  apply List.ext_getElem (by simp [takR])
  intro i h1 h2
  rw [List.getElem_set]
  simp only [takR, List.getElem_map, List.getElem_range, takenB_succ]
  by_cases h : q k = i
  · simp [h]
  · simp [h]
theorem tak_cell {W : World} {base g cap n k i : Nat} {q : Nat → Nat} (h : W.ownsRow base 4 1 (.slice (some ⟨g, 0, none⟩) n cap) n ((takR q n k).map Value.bool)) (hi : i < n) : W.cell? ⟨g, i, none⟩ = some (.bool (takenB q k i)) := by
  have := World.ownsRow.cellAt h i (by omega)
  rw [this]
  simp [takR, hi]
/-- what the inner loop has found among the first j -/
def BestI (key : Nat → Int) (q : Nat → Nat) (k : Nat) (v : Value) (j : Nat) : Prop :=
  (v = .int .i64 (-1) ∧ ∀ t, t < j → takenB q k t = true) ∨ ∃ m : Nat, v = .int .i64 (m : Int) ∧ m < j ∧ takenB q k m = false ∧ ∀ t, t < j → takenB q k t = false → ¬ lo key t m
def bestPre (q : Nat → Nat) (k j : Nat) : List Int := ((List.range j).filter (takenB q k)).map fun i => ((i : Nat) : Int)
theorem bestPre_yes {q : Nat → Nat} {k j : Nat} (h : takenB q k j = true) : bestPre q k (j + 1) = bestPre q k j ++ [(j : Int)] := by
  unfold bestPre
  rw [List.range_succ, List.filter_append, List.map_append]
  simp [h]
theorem bestPre_no {q : Nat → Nat} {k j : Nat} (h : takenB q k j = false) : bestPre q k (j + 1) = bestPre q k j := by
  unfold bestPre
  rw [List.range_succ, List.filter_append, List.map_append]
  simp [h]
theorem bestPre_len (q : Nat → Nat) (k j : Nat) : (bestPre q k j).length ≤ j := by
  unfold bestPre
  rw [List.length_map]
  exact Nat.le_trans (List.length_filter_le _ _) (by simp)


set_option maxRecDepth 100000 in
set_option maxHeartbeats 4000000 in
theorem spec_PolarBest_c (w : World) (p : Int) (x : Nat) (c : Int) : Calls Try.prog 24 #[.int .i64 p, .float .f32 x, .int .i64 c] w fun e w' => ∃ v, e = .returned (.tuple #[v, .bool (pbOk p x c)]) ∧ Ow w' w.heap.size 2 v ((pbL p x c).map (Value.int .i64)) ∧ Below w.heap.size w w' := by
  cases hok : lossOk p x
  · have e1 : pbOk p x c = false := by unfold pbOk; rw [hok]; rfl
    have e2 : pbL p x c = [] := by unfold pbL; rw [e1]; rfl
    rw [e1, e2]
    have HO := Lib.hid hok
    clear e1 e2 hok
    go_enter Try.func24, Try.ntmps24
    go_wp2_with (go_at_call 55; refine (spec_l07Polar_c _ p x).mono ?_; rintro e w1 ⟨rfl, rfl⟩; rw [HO.out])
    go_ret2
    exact ⟨_, rfl, World.ownsRow_nil _ _ _ _, Below.refl _ _⟩
  · have hq := hok
    unfold lossOk at hq
    rw [Bool.and_eq_true, inB_true] at hq
    obtain ⟨P, rfl⟩ : ∃ P : Nat, p = P := ⟨p.toNat, by omega⟩
    have hP : P ≤ 5 := by omega
    obtain ⟨N, hN1, hN32, hN, hw1, hw2⟩ := pow_n hP
    have hfin := loss_fin hq.2 hP
    have hlow := share_low hq.2
    have hlen := lossIt_len x P
    rw [hN] at hlen
    obtain ⟨L, hLe⟩ : ∃ L, lossIt x P = L := ⟨_, rfl⟩
    have HLE := Lib.hid hLe
    rw [hLe] at hfin hlen
    have HO := Lib.hid hok
    have HW1 := Lib.hid hw1
    have HW2 := Lib.hid hw2
    have HF := Lib.hid hfin
    cases hin : inB c 0 (N : Int)
    · have e1 : pbOk (P : Int) x c = false := by unfold pbOk; rw [hok, Int.toNat_natCast, hN, hin]; rfl
      have e2 : pbL (P : Int) x c = [] := by unfold pbL; rw [e1]; rfl
      rw [e1, e2]
      have HI := Lib.hid hin
      clear e1 e2 hok hq hN hw1 hw2 hfin hLe hin hlen
      go_enter Try.func24, Try.ntmps24
      go_wp2_with (first | (go_at_call 55; refine (spec_l07Polar_c _ (P : Int) x).mono ?_; rintro e w1 ⟨rfl, rfl⟩; rw [HO.out]) | (go_at_call 43; (try rw [HW1.out]); (try rw [HW2.out]); refine (spec_l00In_c _ _ _ _).mono ?_; rintro e w' ⟨rfl, rfl⟩; rw [HI.out]))
      go_ret2
      exact ⟨_, rfl, World.ownsRow_nil _ _ _ _, Below.refl _ _⟩
    · have e1 : pbOk (P : Int) x c = true := by unfold pbOk; rw [hok, Int.toNat_natCast, hN, hin]; rfl
      have hc := inB_true.1 hin
      obtain ⟨C, rfl⟩ : ∃ k : Nat, c = k := ⟨c.toNat, by omega⟩
      have hk : C ≤ N := by omega
      have e2 : pbL (P : Int) x C = bestPre (ordOf (keyL L) N) C N := by unfold pbL; rw [e1, Int.toNat_natCast, Int.toNat_natCast, hN, hLe]; rfl
      rw [e1, e2]
      obtain ⟨q, hqq⟩ : ∃ q, ordOf (keyL L) N = q := ⟨_, rfl⟩
      have HQ := Lib.hid hqq
      rw [hqq]
      clear hqq
      have HI := Lib.hid hin
      have HLN := Lib.hid hlen
      have hmk := fun W : World => run_mk (P := Try.prog) Try.underlying25 infoBool rfl (by decide) N (by omega) .i64 .i64 W
      clear e1 e2 hok hq hN hw1 hw2 hfin hLe hin hc hlen
      go_enter Try.func24, Try.ntmps24
      go_wp2_with (first | (go_at_call 55; refine (spec_l07Polar_c _ (P : Int) x).mono ?_; rintro e w1 ⟨rfl, rfl⟩; rw [HO.out]) | (go_at_call 43; (try rw [HW1.out]); (try rw [HW2.out]); refine (spec_l00In_c _ _ _ _).mono ?_; rintro e w' ⟨rfl, rfl⟩; rw [HI.out]) | (go_at_call 56; refine (spec_l07Losses_c _ P x hP hlow).mono ?_; rintro e w1 ⟨v, rfl, ho, hb⟩; rw [HLE.out] at ho; obtain ⟨A, cap, rfl, _, hS⟩ := ho.sl; rw [List.length_map, HLN.out]))
      obtain ⟨g, hg⟩ : ∃ g, w1.heap.size = g := ⟨_, rfl⟩
      have ho1 := own_mk w1 w1.heap.size 4 (.bool false) N (Nat.le_refl _) (by omega)
      have hb1 : Below w1.heap.size w1 (w1.alloc (.cells (zeroRow (.bool false) N) 4)) := (Below.refl _ _).alloc (Nat.le_refl _) _
      have ho1 : (w1.alloc (.cells (zeroRow (.bool false) N) 4)).ownsRow g 4 1 (.slice (some ⟨g, 0, none⟩) N N) N ((takR q N 0).map Value.bool) := by
        rw [takR_zero, List.map_replicate, ← hg]; exact ho1
      rw [hg] at hS hb1 ⊢
      have hgw : w.heap.size ≤ g := by rw [← hg]; exact hb.size
      have HS := Lib.hid hS
      have HB := Lib.hid hb
      have HB1 := Lib.hid hb1
      clear hS ho hb hg hb1
      go_loopw [2] (fun t wr => ∃ k : Nat, k ≤ C ∧ t = .int .i64 ((C : Int) - (k : Int)) ∧ wr.ownsRow g 4 1 (.slice (some ⟨g, 0, none⟩) N N) N ((takR q N k).map Value.bool) ∧ Below g w1 wr) (fun t _ => (intOf t).toNat)
      case atStart => exact ⟨0, Nat.zero_le _, by simp, ho1, HB1.out⟩
      case round =>
        clear ho1
        obtain ⟨k, hkC, rfl, hrow, hb⟩ := hrel
        obtain ⟨wo, rfl⟩ : ∃ wo : World, wo = wr := ⟨_, rfl⟩
        by_cases hlt : k < C
        · have HR := Lib.hid hrow
          have HBO := Lib.hid hb
          clear hrow hb
          go_wp2_with fail
          go_loopw [10, 37] (fun b i wr => ∃ j m : Nat, j ≤ N ∧ i = .int .i64 (j : Int) ∧ BestI (keyL L) q k b j ∧ wr = wo.drewN m) (fun _ i _ => N - (intOf i).toNat)
          case atStart => exact ⟨0, 0, Nat.zero_le _, rfl, .inl ⟨rfl, fun t ht => by omega⟩, rfl⟩
          case round =>
            obtain ⟨j, m, hj, rfl, hbest, rfl⟩ := hrel
            by_cases hlt2 : j < N
            · have hjl : j < L.length := by rw [HLN.out]; exact hlt2
              obtain ⟨b, off, rfl, hbb, hc1⟩ := (HS.out.below HBO.out).get j hjl
              have ct := tak_cell HR.out hlt2
              have f1 := HF.out _ (List.getElem_mem hjl)
              have k1 : keyL L j = keyW (L[j]'hjl) := by unfold keyL; rw [List.getD_eq_getElem?_getD, List.getElem?_eq_getElem hjl]; rfl
              obtain ⟨u, hu⟩ : ∃ u, L[j]'hjl = u := ⟨_, rfl⟩
              simp only [hu] at hc1 f1 k1
              cases ht : takenB q k j
              · rw [ht] at ct
                rcases hbest with ⟨rfl, hall⟩ | ⟨mm, rfl, hmj, hmt, hml⟩
                · have HALL := Lib.hid hall
                  have HT := Lib.hid ht
                  clear hall hu k1 f1 hc1 ht
                  go_wp2_with fail
                  go_quiet (fail)
                  go_wp2
                  go_roundw
                  case rel =>
                    refine ⟨j + 1, _, by omega, by go_num, .inr ⟨j, rfl, by omega, HT.out, fun t t1 t2 => ?_⟩, rfl⟩
                    by_cases htj : t = j
                    · subst htj; exact lo_irr _ _
                    · have := HALL.out t (by omega)
                      rw [t2] at this
                      cases this
                  case measure => simp [intOf]; omega
                · have hml1 : mm < L.length := by rw [HLN.out]; omega
                  obtain ⟨b', off', e2, _, hc2⟩ := (HS.out.below HBO.out).get mm hml1
                  cases e2
                  have f2 := HF.out _ (List.getElem_mem hml1)
                  have k2 : keyL L mm = keyW (L[mm]'hml1) := by unfold keyL; rw [List.getD_eq_getElem?_getD, List.getElem?_eq_getElem hml1]; rfl
                  obtain ⟨v, hv⟩ : ∃ v, L[mm]'hml1 = v := ⟨_, rfl⟩
                  simp only [hv] at hc2 f2 k2
                  have d0 : decide ((mm : Int) < 0) = false := decide_eq_false (by omega)
                  have hmN : mm < N := by omega
                  have HML := Lib.hid hml
                  have HMT := Lib.hid hmt
                  have HMJ := Lib.hid hmj
                  have HT := Lib.hid ht
                  have HK1 := Lib.hid k1
                  have HK2 := Lib.hid k2
                  have hord := order_key f1 f2
                  by_cases hlo : keyL L j < keyL L mm
                  · rw [← k1, ← k2, Int.compare_eq_lt.2 hlo] at hord
                    have HLO := Lib.hid hlo
                    clear hml hmt hmj ht k1 k2 hu hv f1 f2 hlo
                    go_wp2_with fail
                    go_quiet (fail)
                    go_wp2
                    go_roundw
                    case rel =>
                      refine ⟨j + 1, _, by omega, by go_num, .inr ⟨j, rfl, by omega, HT.out, fun t t1 t2 => ?_⟩, rfl⟩
                      by_cases htj : t = j
                      · subst htj; exact lo_irr _ _
                      · intro h3
                        exact HML.out t (by omega) t2 (lo_trans (key := keyL L) h3 (lo_of_lt (key := keyL L) HLO.out))
                    case measure => simp [intOf]; omega
                  · have hnl : FloatKind.f32.format.order u v ≠ some .lt := by
                      rw [hord, ← k1, ← k2]
                      intro h
                      exact hlo (Int.compare_eq_lt.1 (Option.some.inj h))
                    have hbq : (FloatKind.f32.format.order u v == some .lt) = false := by simpa using hnl
                    have HLO := Lib.hid hlo
                    clear hml hmt hmj ht k1 k2 hu hv f1 f2 hlo hord
                    go_wp2_with fail
                    go_quiet (fail)
                    go_wp2
                    go_roundw
                    case rel =>
                      refine ⟨j + 1, _, by omega, by go_num, .inr ⟨mm, rfl, by have := HMJ.out; omega, HMT.out, fun t t1 t2 => ?_⟩, rfl⟩
                      by_cases htj : t = j
                      · subst htj
                        intro h3
                        exact lo_irr (keyL L) _ (lo_trans (key := keyL L) h3 (lo_of_not (key := keyL L) HMJ.out (Int.not_lt.2 (by have := HLO.out; omega))))
                      · exact HML.out t (by omega) t2
                    case measure => simp [intOf]; omega
              · rw [ht] at ct
                have HBE := Lib.hid hbest
                have HT := Lib.hid ht
                clear hbest hu k1 f1 hc1 ht
                go_wp2_with fail
                go_quiet (fail)
                go_wp2
                go_roundw
                case rel =>
                  refine ⟨j + 1, _, by omega, by go_num, ?_, rfl⟩
                  rcases HBE.out with ⟨rfl, hall⟩ | ⟨mm, rfl, hmj, hmt, hml⟩
                  · refine .inl ⟨rfl, fun t t1 => ?_⟩
                    by_cases htj : t = j
                    · subst htj; exact HT.out
                    · exact hall t (by omega)
                  · refine .inr ⟨mm, rfl, by omega, hmt, fun t t1 t2 => ?_⟩
                    by_cases htj : t = j
                    · subst htj; rw [HT.out] at t2; cases t2
                    · exact hml t (by omega) t2
                case measure => simp [intOf]; omega
            · have hjN : j = N := by omega
              subst hjN
              rcases hbest with ⟨rfl, hall⟩ | ⟨mm, rfl, hmj, hmt, hml⟩
              · obtain ⟨t, t1, t2⟩ := some_left (key := keyL L) (n := j) (k := k) (by omega)
                rw [HQ.out] at t2
                rw [hall t t1] at t2
                cases t2
              · have hmq : mm = q k := by
                  rw [← HQ.out] at hmt hml ⊢
                  exact best_is (by omega) hmj hmt hml
                have hst := (World.ownsRow.stored HR.out mm (.bool true)).1
                have hfz := World.ownsRow.frozenAt HR.out mm
                have ct := tak_cell HR.out hmj
                have hset : ((takR q j k).map Value.bool).set mm (.bool true) = (takR q j (k + 1)).map Value.bool := by rw [takR_succ, List.map_set, hmq]
                have HST := Lib.hid hst
                have HSE := Lib.hid hset
                clear hst hset hml hmt hmq
                go_wp2_with fail
                go_roundw
                case rel =>
                  refine ⟨k + 1, by omega, by go_num, ?_, (below_drewN HBO.out _).setCell (p := ⟨g, mm, none⟩) (Nat.le_refl _) _⟩
                  rw [← HSE.out]
                  exact HST.out
                case measure => simp [intOf]; omega
        · have hkC2 : k = C := by omega
          subst hkC2
          rw [Int.sub_self]
          have HR := Lib.hid hrow
          have HBO := Lib.hid hb
          have hBB : Below w.heap.size w wo := HB.out.trans (hb.mono hgw)
          have HBB := Lib.hid hBB
          clear hrow hb hBB
          go_wp2_with fail
          have ho3 := own_empty wo wo.heap.size 2 (Nat.le_refl _)
          have hb3 : Below wo.heap.size wo (wo.alloc (.cells #[] 2)) := (Below.refl _ _).alloc (Nat.le_refl _) _
          go_loopw [12, 68] (fun v i wr => ∃ j : Nat, j ≤ N ∧ i = .int .i64 j ∧ Ow wr wo.heap.size 2 v ((bestPre q k j).map (Value.int .i64)) ∧ Below wo.heap.size wo wr) (fun _ i _ => N - (intOf i).toNat)
          case atStart => exact ⟨0, Nat.zero_le _, rfl, ho3, hb3⟩
          case round =>
            clear ho3 hb3
            obtain ⟨j, hj, rfl, ho, hb⟩ := hrel
            obtain ⟨wi, rfl⟩ : ∃ wi : World, wi = wr := ⟨_, rfl⟩
            have hz := hb.size
            by_cases hlt2 : j < N
            · have ct := tak_cell (own_below HR.out hb (Nat.le_refl _)) hlt2
              have hlen := bestPre_len q k j
              have hlen2 : ((bestPre q k j).map (Value.int .i64)).length + 1 ≤ 1099511627776 := by rw [List.length_map]; omega
              cases ht : takenB q k j
              · rw [ht] at ct
                have HT := Lib.hid (bestPre_no ht)
                clear ht
                go_wp2_with fail
                go_roundw
                case rel =>
                  refine ⟨j + 1, by omega, by go_num, ?_, hb⟩
                  rw [HT.out]
                  exact ho
                case measure => simp [intOf]; omega
              · rw [ht] at ct
                have HT := Lib.hid (bestPre_yes ht)
                clear ht
                go_wp2_with (at_builtin; refine app1 Try.underlying33 infoInt64 rfl (by decide) rfl _ _ rfl _ _ _ rfl (ho.alloc _) _ _ _ rfl (cell_new1 _ _ _) rfl hlen2 (by simp; omega) ?_; intro v' w4 ho4 hb4)
                go_roundw
                case rel =>
                  refine ⟨j + 1, by omega, by go_num, ?_, (hb.alloc hz _).trans hb4⟩
                  rw [HT.out, List.map_append]
                  exact ho4
                case measure => simp [intOf]; omega
            · have hjN : j = N := by omega
              subst hjN
              go_wp2_with fail
              go_ret2
              exact ⟨_, rfl, own_base ho HBB.out.size, HBB.out.trans (hb.mono HBB.out.size)⟩

end Go.Proofs.Ytlcdcicdlfakgaa
