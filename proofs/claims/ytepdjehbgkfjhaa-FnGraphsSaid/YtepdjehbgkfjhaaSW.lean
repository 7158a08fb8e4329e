/-
  Contracts: which graphs are such.
  Conditions: slices are read in memory that is there.
-/
import Derived.Test.YtepdjehbgkfjhaaSG
namespace Go.Proofs.Ytepdjehbgkfjhaa
open Go.RowKit

def rowOk (m : Int) (l : List Int) : Bool := decide (1 ≤ l.length) && setB l 0 (m - 1)
def validGraphB (m : Int) (D : List (List Int)) : Bool := (inB m 1 32 && decide (1 ≤ D.length) && decide (D.length ≤ 32)) && D.all (rowOk m)
theorem vg_no {m : Int} {D : List (List Int)} (h : (inB m 1 32 && decide (1 ≤ D.length) && decide (D.length ≤ 32)) = false) : validGraphB m D = false := by
  unfold validGraphB; rw [h]; rfl
theorem vg_yes {m : Int} {D : List (List Int)} (h : (inB m 1 32 && decide (1 ≤ D.length) && decide (D.length ≤ 32)) = true) : validGraphB m D = D.all (rowOk m) := by
  unfold validGraphB; rw [h]; rfl
theorem set_ge {l : List Int} {hi : Int} (h : setB l 0 hi = true) : ∀ i (hi' : i < l.length), (i : Int) ≤ l[i] ∧ l[i] ≤ hi
  | 0, hi' => by
    have h1 := setB_mem h _ (List.getElem_mem hi')
    omega
  | i + 1, hi' => by
    have h1 := setB_mem h _ (List.getElem_mem hi')
    have h2 := set_ge h i (by omega)
    unfold setB at h
    rw [List.all_eq_true] at h
    have h3 := h (i + 1) (by simpa using hi')
    unfold setAt at h3
    simp only [Bool.and_eq_true, Bool.or_eq_true, beq_iff_eq, decide_eq_true_eq, Nat.add_sub_cancel] at h3
    have h4 := h3.2
    rw [getD_eq hi', getD_eq (show i < l.length by omega)] at h4
    omega
theorem set_len {l : List Int} {hi : Int} (h : setB l 0 hi = true) (h0 : 0 ≤ hi) : (l.length : Int) ≤ hi + 1 := by
  by_cases hz : l.length = 0
  · omega
  · have := set_ge h (l.length - 1) (by omega)
    omega
theorem rowOk_short {m : Int} {l : List Int} (h : l.length < 1) : rowOk m l = false := by
  unfold rowOk; rw [decide_eq_false (by omega)]; rfl
theorem rowOk_long {m : Int} {l : List Int} (hm : 1 ≤ m) (hm2 : m ≤ 32) (h : 32 < l.length) : rowOk m l = false := by
  unfold rowOk
  cases hs : setB l 0 (m - 1)
  · rw [Bool.and_false]
  · have := set_len hs (by omega)
    omega
theorem rowOk_some {m : Int} {l : List Int} (h : 1 ≤ l.length) : rowOk m l = setB l 0 (m - 1) := by
  unfold rowOk; rw [decide_eq_true h]; rfl


set_option maxRecDepth 100000 in
theorem impl_ValidGraph1_c (w : World) (b : Nat) (m : Int) (B : Nat) (r : RowH) (h0 : w.cell? ⟨b, 0, none⟩ = some (.int .i64 m)) (hm1 : 1 ≤ m) (hm2 : m ≤ 32) (hn : r.2.2.length ≤ 1048576) (hx : Sl w B r.1 (r.2.2.map (Value.int .i64))) :
    Calls Try.prog 38 #[rowV r, .pointer (some ⟨b, 0, none⟩)] w fun e w' => e = .returned (.bool (!rowOk m r.2.2)) ∧ ∃ k, w' = w.drewN k := by
  obtain ⟨a, c, l⟩ := r
  simp only [rowV] at hx hn ⊢
  by_cases h1 : l.length < 1
  · rw [rowOk_short h1]
    go_enter Try.func38, Try.ntmps38
    go_wp2
    go_ret
    exact ⟨rfl, 0, rfl⟩
  · rw [rowOk_some (by omega)]
    go_enter Try.func38, Try.ntmps38
    go_wp2_with (go_at_call 39; refine (impl_isSet_c _ B a l.length c l rfl (by omega) hx _ _).mono ?_; rintro e w' ⟨rfl, q, rfl⟩)
    go_ret
    have hd : decide ((l.length : Int) < 1) = false := by simp; omega
    exact ⟨ret_bool (by rw [hd]; rfl), _, rfl⟩


theorem any_bad (m : Int) (ys : List RowH) : (ys.any fun r => !rowOk m r.2.2) = !((dat ys).all (rowOk m)) := by
  unfold dat
  rw [List.all_map, List.not_all_eq_any_not]
  rfl

set_option maxRecDepth 100000 in
set_option maxHeartbeats 1000000 in
theorem impl_ValidGraph_c (w : World) (m : Int) (A : Option Addr) (n cap : Nat) (ys : List RowH) (D : List (List Int)) (hd : dat ys = D) (hl : ys.length = n) (hn : n ≤ 1048576) (hr : ∀ r ∈ ys, r.2.2.length ≤ 1048576) (hx : Sl2 w w.heap.size A ys) :
    Calls Try.prog 14 #[.agg #[.int .i64 m, .slice A n cap]] w fun e w' => e = .returned (.bool (validGraphB m D)) ∧ Below w.heap.size w w' := by
  have hB : Below w.heap.size w (w.alloc (.cells #[.int .i64 m, .slice A n cap] 26)) := (Below.refl _ _).alloc (Nat.le_refl _) _
  have hx' := hx.alloc (Nat.le_refl _) (.cells #[.int .i64 m, .slice A n cap] 26)
  have hdl : D.length = n := by rw [← hd, dat_len, hl]
  cases hm : inB m 1 32
  · rw [vg_no (by rw [hm]; rfl)]
    have HM := Lib.hid hm
    clear hm
    go_enter Try.func14, Try.ntmps14
    go_wp2_with (go_at_call 20; refine (impl_within_c _ _ _ _).mono ?_; rintro e w' ⟨rfl, rfl⟩; rw [HM.out])
    go_ret
    exact ⟨rfl, hB⟩
  · by_cases g1 : 1 ≤ n
    · by_cases g4 : n ≤ 32
      · rw [vg_yes (by rw [hm, hdl]; simp [g1, g4])]
        have HM := Lib.hid hm
        have hany := any_bad m ys
        rw [hd] at hany
        rw [inB_true] at hm
        have ht : TestsR 38 #[.pointer (some ⟨w.heap.size, 0, none⟩)] (fun r => !rowOk m r.2.2) (w.alloc (.cells #[.int .i64 m, .slice A n cap] 26)) ys := by
          refine ⟨Try.call38, fun u hu q => ?_⟩
          exact impl_ValidGraph1_c _ w.heap.size m w.heap.size u (show (w.alloc (.cells #[.int .i64 m, .slice A n cap] 26)).cell? ⟨w.heap.size, 0, none⟩ = _ by (first | (simp; done) | (simp (disch := (first | (simp; done) | (simp; omega))) [World.cell?_alloc_at]; done) | (simp (disch := (first | (simp; done) | (simp; omega))) [World.cell?_alloc_past]; done) | (simp (disch := (first | (simp; done) | (simp; omega))) [World.cell?_alloc_at, World.cell?_alloc_past]; done) | (simp (disch := (first | (simp; done) | (simp; omega))) [World.frozen?_alloc_at]; done) | (simp (disch := (first | (simp; done) | (simp; omega))) [World.frozen?_alloc_past]; done) | (simp (disch := (first | (simp; done) | (simp; omega))) [World.frozen?_alloc_at, World.frozen?_alloc_past]; done))) hm.1 hm.2 (hr u hu) ((hx'.2 u hu).drewN q)
        have HT := Lib.hid ht
        have HA := Lib.hid hany
        clear hm ht hany hd hr
        go_enter Try.func14, Try.ntmps14
        go_wp2_with (first | (go_at_call 20; refine (impl_within_c _ _ _ _).mono ?_; rintro e w' ⟨rfl, rfl⟩; rw [HM.out]) | (go_at_call 37; refine (ContainsFunc_rows_c _ _ A n cap ys hl (by omega) hx'.1 _ _ _ HT.out).mono ?_; rintro e w' ⟨rfl, q, rfl⟩; rw [HA.out]))
        go_ret
        exact ⟨ret_bool (by simp), below_drewN hB _⟩
      · rw [vg_no (by rw [hdl]; simp [g4])]
        have HM := Lib.hid hm
        clear hm
        go_enter Try.func14, Try.ntmps14
        go_wp2_with (go_at_call 20; refine (impl_within_c _ _ _ _).mono ?_; rintro e w' ⟨rfl, rfl⟩; rw [HM.out])
        go_ret
        exact ⟨rfl, hB⟩
    · rw [vg_no (by rw [hdl]; simp [g1])]
      have HM := Lib.hid hm
      clear hm
      go_enter Try.func14, Try.ntmps14
      go_wp2_with (go_at_call 20; refine (impl_within_c _ _ _ _).mono ?_; rintro e w' ⟨rfl, rfl⟩; rw [HM.out])
      go_ret
      exact ⟨rfl, hB⟩


set_option maxRecDepth 100000 in
set_option maxHeartbeats 4000000 in
theorem spec_l07Graph_c (w : World) (b : Nat) (m : Int) (B : Nat) (A : Option Addr) (n cap : Nat) (ys : List RowH) (D : List (List Int)) (hd : dat ys = D) (h0 : w.cell? ⟨b, 0, none⟩ = some (.int .i64 m)) (h1 : w.cell? ⟨b, 1, none⟩ = some (.slice A n cap)) (hl : ys.length = n) (hn : n ≤ 1048576) (hr : ∀ r ∈ ys, r.2.2.length ≤ 1048576) (hx : Sl2 w B A ys) :
    Calls Try.prog 25 #[.pointer (some ⟨b, 0, none⟩)] w fun e w' => e = .returned (.bool (validGraphB m D)) ∧ ∃ k, w' = w.drewN k := by
  have hdl : D.length = n := by rw [← hd, dat_len, hl]
  cases hm : inB m 1 32
  · rw [vg_no (by rw [hm]; rfl)]
    have HM := Lib.hid hm
    clear hm
    go_enter Try.func25, Try.ntmps25
    go_wp2_with (go_at_call 26; refine (spec_l00In_c _ _ _ _).mono ?_; rintro e w' ⟨rfl, rfl⟩; rw [HM.out])
    go_ret
    exact ⟨rfl, 0, rfl⟩
  · by_cases g1 : 1 ≤ n
    · by_cases g4 : n ≤ 32
      · rw [vg_yes (by rw [hm, hdl]; simp [g1, g4])]
        have HM := Lib.hid hm
        rw [inB_true] at hm
        obtain ⟨m1, m2⟩ := hm
        have hall : ∀ k (hk : k < ys.length), rowOk m (ys[k]'hk).2.2 = false → D.all (rowOk m) = false := fun k hk h => by
          rw [← Bool.not_eq_true, List.all_eq_true]
          intro hh
          rw [← hd] at hh
          have := hh (ys[k]'hk).2.2 (List.mem_map_of_mem (List.getElem_mem hk))
          rw [h] at this
          cases this
        have hyes : (∀ k (hk : k < ys.length), rowOk m (ys[k]'hk).2.2 = true) → D.all (rowOk m) = true := fun h => by
          rw [List.all_eq_true, ← hd]
          intro l hl
          obtain ⟨r, hr, rfl⟩ := List.mem_map.1 hl
          obtain ⟨k, hk, rfl⟩ := List.mem_iff_getElem.1 hr
          exact h k hk
        have HALL := Lib.hid hall
        have HYES := Lib.hid hyes
        clear hd hall hyes
        go_enter Try.func25, Try.ntmps25
        go_wp2_with (go_at_call 26; refine (spec_l00In_c _ _ _ _).mono ?_; rintro e w' ⟨rfl, rfl⟩; rw [HM.out])
        go_loopw [33] (fun i wr => ∃ k q : Nat, k ≤ n ∧ i = .int .i64 k ∧ (∀ j (hj : j < ys.length), j < k → rowOk m (ys[j]'hj).2.2 = true) ∧ wr = w.drewN q) (fun i _ => n - (intOf i).toNat)
        case atStart => exact ⟨0, 0, Nat.zero_le _, rfl, fun j _ hj => by omega, rfl⟩
        case round =>
          obtain ⟨k, q, hk, rfl, hp, rfl⟩ := hrel
          have HP := Lib.hid hp
          clear hp
          by_cases hlt : k < n
          · obtain ⟨b2, off, rfl, hbb, hc1⟩ := hx.1.get k (by omega)
            have g1 := hx.2 (ys[k]'(by omega)) (List.getElem_mem _)
            have g3 := hr (ys[k]'(by omega)) (List.getElem_mem _)
            obtain ⟨⟨a, c, l⟩, hxx⟩ : ∃ x, ys[k]'(by omega) = x := ⟨_, rfl⟩
            rw [hxx] at hc1 g1 g3
            simp only [rowV] at hc1 g1 g3
            have HK := Lib.hid hxx
            have hkl : k < ys.length := by omega
            clear hx hxx hr
            by_cases s1 : l.length < 1
            · go_wp2
              go_ret
              exact ⟨ret_bool (HALL.out k hkl (by rw [HK.out]; exact rowOk_short s1)).symm, _, rfl⟩
            · by_cases s2 : 32 < l.length
              · go_wp2
                go_ret
                exact ⟨ret_bool (HALL.out k hkl (by rw [HK.out]; exact rowOk_long m1 m2 s2)).symm, _, rfl⟩
              · go_wp2
                obtain ⟨n2, hn2⟩ : ∃ n2, l.length = n2 := ⟨_, rfl⟩
                rw [hn2] at s1 s2 g3 ⊢
                go_loopw [53] (fun i wr => ∃ k2 q2 : Nat, k2 ≤ n2 ∧ i = .int .i64 k2 ∧ (∀ j, j < k2 → setAt l 0 (m - 1) j = true) ∧ wr = w.drewN q2) (fun i _ => n2 - (intOf i).toNat)
                case atStart => exact ⟨0, q, Nat.zero_le _, rfl, fun j hj => by omega, rfl⟩
                case round =>
                  obtain ⟨i, q2, hi, rfl, hp2, rfl⟩ := hrel
                  have HP2 := Lib.hid hp2
                  clear hp2
                  by_cases hlt2 : i < n2
                  · obtain ⟨b3, off3, rfl, hbb3, hc3⟩ := g1.get i (by omega)
                    have hx1 : l.getD i 0 = l[i]'(by omega) := getD_eq (by omega)
                    have hpre : ∃ b4 off4, some ⟨b3, off3, none⟩ = some (⟨b4, off4, none⟩ : Addr) ∧ (0 < i → w.cell? ⟨b4, off4 + (i - 1), none⟩ = some (.int .i64 (l.getD (i - 1) 0))) := by
                      obtain ⟨b4, off4, he, _, hc2⟩ := g1.get (i - 1) (by omega)
                      exact ⟨b4, off4, he, fun _ => by rw [getD_eq (show i - 1 < l.length by omega)]; exact hc2⟩
                    obtain ⟨b4, off4, he, hpc⟩ := hpre
                    injection he with he
                    injection he with he1 he2
                    subst he1 he2
                    clear g1
                    obtain ⟨x, hxk⟩ : ∃ x, l[i]'(by omega) = x := ⟨_, rfl⟩
                    rw [hxk] at hc3 hx1
                    have HX := Lib.hid hx1
                    clear hx1 hxk
                    cases hbx : inB x 0 (m - 1)
                    · have HB := Lib.hid hbx
                      clear hbx hpc
                      go_wp2_with fail
                      go_quiet ((go_at_call 26; refine l00In_is HB.out ?_; first | rfl | exact IntWalk.i64_in _ (by omega) | exact IntWalk.wrap64_in _ (by omega)))
                      go_wp2
                      go_ret
                      exact ⟨ret_bool (HALL.out k hkl (by rw [HK.out, rowOk_some (by show 1 ≤ l.length; omega)]; exact setB_false (i := i) (by show i < l.length; omega) (by unfold setAt; rw [HX.out, HB.out]; rfl))).symm, _, World.drewN_drewN _ _ _⟩
                    · have HB := Lib.hid hbx
                      clear hbx
                      by_cases h0 : i = 0
                      · subst h0
                        clear hpc
                        rw [Nat.add_zero] at hc3
                        go_wp2_with fail
                        go_quiet ((go_at_call 26; refine l00In_is HB.out ?_; first | rfl | exact IntWalk.i64_in _ (by omega) | exact IntWalk.wrap64_in _ (by omega)))
                        go_wp2
                        go_roundw
                        case rel =>
                          refine ⟨0 + 1, _, by omega, by go_num, ?_, rfl⟩
                          intro j hj
                          have : j = 0 := by omega
                          subst this
                          unfold setAt
                          rw [HX.out, HB.out]
                          rfl
                        case measure => simp [intOf]; omega
                      · have hc2 := hpc (by omega)
                        obtain ⟨y, hy⟩ : ∃ y, l.getD (i - 1) 0 = y := ⟨_, rfl⟩
                        rw [hy] at hc2
                        have HY := Lib.hid hy
                        clear hy hpc
                        have hd0 : decide (0 < i) = true := by simp; omega
                        by_cases hxy : y < x
                        · have hd1 : decide (x ≤ y) = false := by simp; omega
                          go_wp2_with fail
                          go_quiet ((go_at_call 26; refine l00In_is HB.out ?_; first | rfl | exact IntWalk.i64_in _ (by omega) | exact IntWalk.wrap64_in _ (by omega)))
                          go_wp2
                          go_roundw
                          case rel =>
                            refine ⟨i + 1, _, by omega, by go_num, ?_, rfl⟩
                            intro j hj
                            by_cases hji : j = i
                            · subst hji
                              unfold setAt
                              rw [HX.out, HB.out, HY.out]
                              simp [hxy]
                            · exact HP2.out j (by omega)
                          case measure => simp [intOf]; omega
                        · have hd1 : decide (x ≤ y) = true := by simp; omega
                          go_wp2_with fail
                          go_quiet ((go_at_call 26; refine l00In_is HB.out ?_; first | rfl | exact IntWalk.i64_in _ (by omega) | exact IntWalk.wrap64_in _ (by omega)))
                          go_wp2
                          go_ret
                          refine ⟨ret_bool (HALL.out k hkl (by rw [HK.out, rowOk_some (by show 1 ≤ l.length; omega)]; refine setB_false (i := i) (by show i < l.length; omega) ?_; show setAt l 0 (m - 1) i = false; unfold setAt; rw [HX.out, HB.out, HY.out]; simp [hxy, h0])).symm, _, World.drewN_drewN _ _ _⟩
                  · have : i = n2 := by omega
                    subst this
                    go_wp2
                    go_roundw
                    case rel =>
                      refine ⟨k + 1, _, by omega, by go_num, ?_, rfl⟩
                      intro j hj hjk
                      by_cases hj2 : j = k
                      · subst hj2
                        rw [HK.out, rowOk_some (by show 1 ≤ l.length; omega)]
                        exact setB_true (fun i hi' => HP2.out i (by have h : i < l.length := hi'; omega))
                      · exact HP.out j hj (by omega)
                    case measure => simp [intOf]; omega
          · have : k = n := by omega
            subst this
            go_wp2
            go_ret
            exact ⟨ret_bool (HYES.out (fun j hj => HP.out j hj (by omega))).symm, _, rfl⟩
      · rw [vg_no (by rw [hdl]; simp [g4])]
        have HM := Lib.hid hm
        clear hm
        go_enter Try.func25, Try.ntmps25
        go_wp2_with (go_at_call 26; refine (spec_l00In_c _ _ _ _).mono ?_; rintro e w' ⟨rfl, rfl⟩; rw [HM.out])
        go_ret
        exact ⟨rfl, 0, rfl⟩
    · rw [vg_no (by rw [hdl]; simp [g1])]
      have HM := Lib.hid hm
      clear hm
      go_enter Try.func25, Try.ntmps25
      go_wp2_with (go_at_call 26; refine (spec_l00In_c _ _ _ _).mono ?_; rintro e w' ⟨rfl, rfl⟩; rw [HM.out])
      go_ret
      exact ⟨rfl, 0, rfl⟩


end Go.Proofs.Ytepdjehbgkfjhaa
