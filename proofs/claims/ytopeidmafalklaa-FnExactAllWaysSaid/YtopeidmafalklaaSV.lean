/-
  Contracts: which coders are such.
  Conditions: slices are read in memory that is there.
-/
import Derived.Test.YtopeidmafalklaaSC
namespace Go.Proofs.Ytopeidmafalklaa
open Go.RowKit


def validCoderB (m : Int) (xs : List Int) : Bool := (inB m 1 4 && decide (1 ≤ xs.length) && decide (xs.length ≤ 4)) && xs.all fun x => inB x 1 (2 * 2 ^ m.toNat - 1)

theorem vc_no {m : Int} {xs : List Int} (h : (inB m 1 4 && decide (1 ≤ xs.length) && decide (xs.length ≤ 4)) = false) : validCoderB m xs = false := by
  unfold validCoderB; rw [h]; rfl
theorem vc_yes {m : Int} {xs : List Int} (h : (inB m 1 4 && decide (1 ≤ xs.length) && decide (xs.length ≤ 4)) = true) : validCoderB m xs = xs.all fun x => inB x 1 (2 * 2 ^ m.toNat - 1) := by
  unfold validCoderB; rw [h]; rfl
theorem vc_q {m : Int} (h : inB m 1 4 = true) : (m = 1 ∧ (2 * 2 ^ m.toNat - 1 : Int) = 3) ∨ (m = 2 ∧ (2 * 2 ^ m.toNat - 1 : Int) = 7) ∨ (m = 3 ∧ (2 * 2 ^ m.toNat - 1 : Int) = 15) ∨ (m = 4 ∧ (2 * 2 ^ m.toNat - 1 : Int) = 31) := by
  rw [inB_true] at h
  have h6 : m = 1 ∨ m = 2 ∨ m = 3 ∨ m = 4 := by omega
  rcases h6 with rfl | rfl | rfl | rfl <;> decide

theorem within_is {w : World} {x lo hi : Int} {bb : Bool} {n : Nat} (hb : inB x lo hi = bb) :
    Calls Try.prog 63 #[.int .i64 x, .int .i64 lo, .int .i64 hi] (w.drewN n) fun e w' => e = .returned (.bool bb) ∧ ∃ k, w' = w.drewN k := by
  refine (impl_within_c _ _ _ _).mono ?_
  rintro e w' ⟨rfl, rfl⟩
  exact ⟨by rw [hb], _, rfl⟩

theorem areWithin_is {w : World} {B n cap q : Nat} {A : Option Addr} {xs : List Int} {lo hi : Int} (hl : xs.length = n) (hn : n ≤ 1048576) (hx : Sl w B A (xs.map (Value.int .i64))) :
    Calls Try.prog 64 #[.slice A n cap, .int .i64 lo, .int .i64 hi] (w.drewN q) fun e w' => e = .returned (.bool (xs.all fun x => inB x lo hi)) ∧ ∃ k, w' = w.drewN k := by
  refine (impl_areWithin_c (w.drewN q) B A n cap xs hl (by omega) (hx.drewN q) lo hi).mono ?_
  rintro e w' ⟨rfl, m, rfl⟩
  exact ⟨rfl, _, World.drewN_drewN _ _ _⟩

set_option maxRecDepth 100000 in
set_option maxHeartbeats 4000000 in
theorem impl_ValidCoder_c (w : World) (m : Int) (A : Option Addr) (n cap : Nat) (xs : List Int) (hl : xs.length = n) (hn : n ≤ 1048576) (hx : Sl w w.heap.size A (xs.map (Value.int .i64))) :
    Calls Try.prog 24 #[.agg #[.int .i64 m, .slice A n cap]] w fun e w' => e = .returned (.bool (validCoderB m xs)) ∧ Below w.heap.size w w' := by
  have hx' := hx.alloc (Nat.le_refl _) (.cells #[.int .i64 m, .slice A n cap] 29)
  have hB : Below w.heap.size w (w.alloc (.cells #[.int .i64 m, .slice A n cap] 29)) := (Below.refl _ _).alloc (Nat.le_refl _) _
  cases hm : inB m 1 4
  · rw [vc_no (by rw [hm]; rfl)]
    have HM := Lib.hid hm
    clear hm
    go_enter Try.func24, Try.ntmps24
    go_wp2_with fail
    go_quiet ((go_at_call 63; exact within_is HM.out))
    go_wp2
    go_ret
    exact ⟨rfl, below_drewN hB _⟩
  · by_cases h1 : 1 ≤ n
    · by_cases h4 : n ≤ 4
      · rw [vc_yes (by rw [hm, hl]; simp [h1, h4])]
        have HM := Lib.hid hm
        have hq := vc_q hm
        generalize hQ : (2 * 2 ^ m.toNat - 1 : Int) = Q at hq ⊢
        clear hQ hm
        have d1 : decide ((1 : Int) ≤ (n : Int)) = true := by simp; omega
        have d2 : decide ((n : Int) ≤ 4) = true := by simp; omega
        rcases hq with ⟨rfl, rfl⟩ | ⟨rfl, rfl⟩ | ⟨rfl, rfl⟩ | ⟨rfl, rfl⟩
        all_goals
          go_enter Try.func24, Try.ntmps24
          go_wp2_with fail
          go_quiet ((first | (go_at_call 63; exact within_is HM.out) | (go_at_call 64; exact areWithin_is hl hn hx')))
          go_wp2
          go_ret
          exact ⟨rfl, below_drewN hB _⟩
      · rw [vc_no (by rw [hl]; simp [h4])]
        have HM := Lib.hid hm
        have d1 : decide ((1 : Int) ≤ (n : Int)) = true := by simp; omega
        have d2 : decide ((n : Int) ≤ 4) = false := by simp; omega
        clear hm
        go_enter Try.func24, Try.ntmps24
        go_wp2_with fail
        go_quiet ((go_at_call 63; exact within_is HM.out))
        go_wp2
        go_ret
        exact ⟨rfl, below_drewN hB _⟩
    · rw [vc_no (by rw [hl]; simp [h1])]
      have HM := Lib.hid hm
      have d1 : decide ((1 : Int) ≤ (n : Int)) = false := by simp; omega
      clear hm
      go_enter Try.func24, Try.ntmps24
      go_wp2_with fail
      go_quiet ((go_at_call 63; exact within_is HM.out))
      go_wp2
      go_ret
      exact ⟨rfl, below_drewN hB _⟩

theorem l00In_at {w : World} {x lo hi : Int} {bb : Bool} {n m : Nat} (hb : inB x lo hi = bb) :
    Calls Try.prog 71 #[.int .i64 x, .int .i64 lo, .int .i64 hi] (w.drewN (n + m)) fun e w' => e = .returned (.bool bb) ∧ ∃ k, w' = w.drewN (n + k) := by
  refine (spec_l00In_c _ _ _ _).mono ?_
  rintro e w' ⟨rfl, rfl⟩
  exact ⟨by rw [hb], _, rfl⟩

set_option maxRecDepth 100000 in
set_option maxHeartbeats 4000000 in
theorem spec_l07Coder_c (w : World) (b : Nat) (m : Int) (B : Nat) (A : Option Addr) (n cap : Nat) (xs : List Int) (h0 : w.cell? ⟨b, 0, none⟩ = some (.int .i64 m)) (h1 : w.cell? ⟨b, 1, none⟩ = some (.slice A n cap)) (hl : xs.length = n) (hn : n ≤ 1048576) (hx : Sl w B A (xs.map (Value.int .i64))) :
    Calls Try.prog 34 #[.pointer (some ⟨b, 0, none⟩)] w fun e w' => e = .returned (.bool (validCoderB m xs)) ∧ ∃ k, w' = w.drewN k := by
  cases hm : inB m 1 4
  · rw [vc_no (by rw [hm]; rfl)]
    have HM := Lib.hid hm
    clear hm
    go_enter Try.func34, Try.ntmps34
    go_wp2_with (go_at_call 71; refine (spec_l00In_c _ _ _ _).mono ?_; rintro e w' ⟨rfl, rfl⟩; rw [HM.out])
    go_ret
    exact ⟨rfl, 0, rfl⟩
  · by_cases g1 : 1 ≤ n
    · by_cases g4 : n ≤ 4
      · rw [vc_yes (by rw [hm, hl]; simp [g1, g4])]
        have HM := Lib.hid hm
        have hq := vc_q hm
        generalize hQ : (2 * 2 ^ m.toNat - 1 : Int) = Q at hq ⊢
        obtain ⟨ib, hib⟩ : ∃ ib : Int → Bool, ∀ x, inB x 1 Q = ib x := ⟨_, fun _ => rfl⟩
        have e1 : (xs.all fun x => inB x 1 Q) = xs.all ib := by simp only [hib]
        rw [e1]
        have HI := Lib.hid hib
        clear hQ hm hib e1
        rcases hq with ⟨rfl, rfl⟩ | ⟨rfl, rfl⟩ | ⟨rfl, rfl⟩ | ⟨rfl, rfl⟩
        all_goals
          go_enter Try.func34, Try.ntmps34
          go_wp2_with (go_at_call 71; refine (spec_l00In_c _ _ _ _).mono ?_; rintro e w' ⟨rfl, rfl⟩; rw [HM.out])
          go_loopw [31] (fun i wr => ∃ k q : Nat, k ≤ n ∧ i = .int .i64 k ∧ (xs.take k).all ib = true ∧ wr = w.drewN q) (fun i _ => n - (intOf i).toNat)
          case atStart => exact ⟨0, 0, Nat.zero_le _, rfl, rfl, rfl⟩
          case round =>
            obtain ⟨k, q, hk, rfl, hp, rfl⟩ := hrel
            have HP := Lib.hid hp
            clear hp
            by_cases hlt : k < n
            · obtain ⟨b2, off, rfl, hbb, hc1⟩ := hx.get k (by omega)
              have htk : (xs.take (k + 1)).all ib = ((xs.take k).all ib && ib (xs[k]'(by omega))) := by
                rw [List.take_succ_eq_append_getElem (by omega), List.all_append]; simp
              have hal : ib (xs[k]'(by omega)) = false → xs.all ib = false := fun h => by
                rw [← Bool.not_eq_true, List.all_eq_true]
                intro hh
                rw [hh _ (List.getElem_mem _)] at h
                cases h
              clear hx
              obtain ⟨x, hxx⟩ : ∃ x, xs[k]'(by omega) = x := ⟨_, rfl⟩
              rw [hxx] at hc1 htk hal
              have HT := Lib.hid htk
              have HA := Lib.hid hal
              clear htk hxx hal
              cases hbx : ib x
              · have HX := Lib.hid ((HI.out x).trans hbx)
                have HF := Lib.hid hbx
                clear hbx
                go_wp2_with fail
                go_quiet ((go_at_call 71; exact l00In_at HX.out))
                go_wp2
                go_ret
                exact ⟨ret_bool (HA.out HF.out).symm, _, World.drewN_drewN _ _ _⟩
              · have HX := Lib.hid ((HI.out x).trans hbx)
                have HF := Lib.hid hbx
                clear hbx
                go_wp2_with fail
                go_quiet ((go_at_call 71; exact l00In_at HX.out))
                go_wp2
                go_roundw
                case rel =>
                  refine ⟨k + 1, _, by omega, by go_num, ?_, rfl⟩
                  rw [HT.out, HP.out, HF.out]
                  rfl
                case measure => simp [intOf]; omega
            · have : k = n := by omega
              subst this
              go_wp2
              go_ret
              refine ⟨ret_bool ?_, _, rfl⟩
              have h := HP.out
              rw [List.take_of_length_le (by omega)] at h
              exact h.symm
      · rw [vc_no (by rw [hl]; simp [g4])]
        have HM := Lib.hid hm
        clear hm
        go_enter Try.func34, Try.ntmps34
        go_wp2_with (go_at_call 71; refine (spec_l00In_c _ _ _ _).mono ?_; rintro e w' ⟨rfl, rfl⟩; rw [HM.out])
        go_ret
        exact ⟨rfl, 0, rfl⟩
    · rw [vc_no (by rw [hl]; simp [g1])]
      have HM := Lib.hid hm
      clear hm
      go_enter Try.func34, Try.ntmps34
      go_wp2_with (go_at_call 71; refine (spec_l00In_c _ _ _ _).mono ?_; rintro e w' ⟨rfl, rfl⟩; rw [HM.out])
      go_ret
      exact ⟨rfl, 0, rfl⟩


end Go.Proofs.Ytopeidmafalklaa
