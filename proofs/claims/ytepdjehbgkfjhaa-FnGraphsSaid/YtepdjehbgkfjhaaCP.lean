/-
  Contracts: sets of numbers, places of a power, and what is sent at places.
  Conditions: lengths at most 1048576.
-/
import Derived.Test.YtepdjehbgkfjhaaCT
import Derived.Deep.QuietTactic
import Derived.BigQuiet
namespace Go.Proofs.Ytepdjehbgkfjhaa
open Go.RowKit

def setAt (xs : List Int) (lo hi : Int) (i : Nat) : Bool := inB (xs.getD i 0) lo hi && (i == 0 || decide (xs.getD (i - 1) 0 < xs.getD i 0))
/-- numbers rise strictly, within bounds -/
def setB (xs : List Int) (lo hi : Int) : Bool := (List.range xs.length).all (setAt xs lo hi)
theorem setB_false {xs : List Int} {lo hi : Int} {i : Nat} (hi' : i < xs.length) (h : setAt xs lo hi i = false) : setB xs lo hi = false := by
  unfold setB
  rw [← Bool.not_eq_true, List.all_eq_true]
  intro hh
  have := hh i (by simpa using hi')
  rw [h] at this
  cases this
theorem setB_true {xs : List Int} {lo hi : Int} (h : ∀ i, i < xs.length → setAt xs lo hi i = true) : setB xs lo hi = true := by
  unfold setB
  rw [List.all_eq_true]
  intro i hi'
  exact h i (by simpa using hi')
theorem setB_mem {xs : List Int} {lo hi : Int} (h : setB xs lo hi = true) : ∀ x ∈ xs, lo ≤ x ∧ x ≤ hi := by
  intro x hx
  obtain ⟨i, hi', rfl⟩ := List.mem_iff_getElem.1 hx
  unfold setB at h
  rw [List.all_eq_true] at h
  have h1 := h i (by simpa using hi')
  unfold setAt at h1
  rw [Bool.and_eq_true, inB_true] at h1
  simpa [List.getD, hi'] using h1.1
theorem getD_eq {xs : List Int} {i : Nat} (h : i < xs.length) : xs.getD i 0 = xs[i] := by simp [List.getD, h]


set_option maxRecDepth 100000 in
set_option maxHeartbeats 1000000 in
theorem impl_isSet_c (w : World) (B : Nat) (A : Option Addr) (n cap : Nat) (xs : List Int) (hl : xs.length = n) (hn : n ≤ 1099511627776) (hx : Sl w B A (xs.map (Value.int .i64))) (lo hi : Int) :
    Calls Try.prog 39 #[.slice A n cap, .int .i64 lo, .int .i64 hi] w fun e w' => e = .returned (.bool (setB xs lo hi)) ∧ ∃ m, w' = w.drewN m := by
  go_enter Try.func39, Try.ntmps39
  go_wp2
  go_loopw [11] (fun i wr => ∃ k m : Nat, k ≤ n ∧ i = .int .i64 k ∧ (∀ j, j < k → setAt xs lo hi j = true) ∧ wr = w.drewN m) (fun i _ => n - (intOf i).toNat)
  case atStart => exact ⟨0, 0, Nat.zero_le _, rfl, fun j hj => by omega, rfl⟩
  case round =>
    obtain ⟨k, m, hk, rfl, hp, rfl⟩ := hrel
    have HP := Lib.hid hp
    clear hp
    by_cases hlt : k < n
    · obtain ⟨b, off, rfl, hbb, hc1⟩ := hx.get k (by omega)
      have hk1 : xs.getD k 0 = xs[k]'(by omega) := getD_eq (by omega)
      have hpre : ∃ b2 off2, some ⟨b, off, none⟩ = some (⟨b2, off2, none⟩ : Addr) ∧ (0 < k → w.cell? ⟨b2, off2 + (k - 1), none⟩ = some (.int .i64 (xs.getD (k - 1) 0))) := by
        obtain ⟨b2, off2, he, _, hc2⟩ := hx.get (k - 1) (by omega)
        exact ⟨b2, off2, he, fun _ => by rw [getD_eq (show k - 1 < xs.length by omega)]; exact hc2⟩
      obtain ⟨b2, off2, he, hpc⟩ := hpre
      injection he with he
      injection he with he1 he2
      subst he1 he2
      clear hx
      obtain ⟨x, hxk⟩ : ∃ x, xs[k]'(by omega) = x := ⟨_, rfl⟩
      rw [hxk] at hc1 hk1
      have HK := Lib.hid hk1
      clear hk1 hxk
      cases hf : inB x lo hi
      · have HF := Lib.hid hf
        clear hf hpc
        go_wp2_with (go_at_call 20; refine (impl_within_c _ _ _ _).mono ?_; rintro e w' ⟨rfl, rfl⟩; rw [HF.out])
        go_ret
        exact ⟨ret_bool (setB_false (i := k) (by omega) (by unfold setAt; rw [HK.out, HF.out]; rfl)).symm, _, rfl⟩
      · have HF := Lib.hid hf
        clear hf
        by_cases h0 : k = 0
        · subst h0
          clear hpc
          rw [Nat.add_zero] at hc1
          go_wp2_with (go_at_call 20; refine (impl_within_c _ _ _ _).mono ?_; rintro e w' ⟨rfl, rfl⟩; rw [HF.out])
          go_roundw
          case rel =>
            refine ⟨0 + 1, _, by omega, by go_num, ?_, rfl⟩
            intro j hj
            have : j = 0 := by omega
            subst this
            unfold setAt
            rw [HK.out, HF.out]
            rfl
          case measure => simp [intOf]; omega
        · have hc2 := hpc (by omega)
          obtain ⟨y, hy⟩ : ∃ y, xs.getD (k - 1) 0 = y := ⟨_, rfl⟩
          rw [hy] at hc2
          have HY := Lib.hid hy
          clear hy hpc
          have hd0 : decide ((0 : Int) < (k : Int)) = true := by simp; omega
          by_cases hxy : y < x
          · have hd1 : decide (x ≤ y) = false := by simp; omega
            go_wp2_with (go_at_call 20; refine (impl_within_c _ _ _ _).mono ?_; rintro e w' ⟨rfl, rfl⟩; rw [HF.out])
            go_roundw
            case rel =>
              refine ⟨k + 1, _, by omega, by go_num, ?_, rfl⟩
              intro j hj
              by_cases hjk : j = k
              · subst hjk
                unfold setAt
                rw [HK.out, HF.out, HY.out]
                simp [hxy]
              · exact HP.out j (by omega)
            case measure => simp [intOf]; omega
          · have hd1 : decide (x ≤ y) = true := by simp; omega
            go_wp2_with (go_at_call 20; refine (impl_within_c _ _ _ _).mono ?_; rintro e w' ⟨rfl, rfl⟩; rw [HF.out])
            go_ret
            refine ⟨ret_bool (setB_false (i := k) (by omega) ?_).symm, _, rfl⟩
            unfold setAt
            rw [HK.out, HF.out, HY.out]
            simp [hxy, h0]
    · have : k = n := by omega
      subst this
      go_wp2
      go_ret
      exact ⟨ret_bool (setB_true (fun i hi' => HP.out i (by omega))).symm, _, rfl⟩


/-- places of a power -/
def placesB (p : Int) (xs : List Int) : Bool := inB p 0 5 && setB xs 0 (2 ^ p.toNat - 1)


theorem q_wrap {p : Int} (h : inB p 0 5 = true) : IntKind.i64.wrap (IntKind.i64.wrap (2 ^ p.toNat) - 1) = (2 ^ p.toNat - 1 : Int) ∧ wrap64 (wrap64 (2 ^ p.toNat) - 1) = (2 ^ p.toNat - 1 : Int) := by
  rw [inB_true] at h
  have h6 : p = 0 ∨ p = 1 ∨ p = 2 ∨ p = 3 ∨ p = 4 ∨ p = 5 := by omega
  rcases h6 with rfl | rfl | rfl | rfl | rfl | rfl <;> decide +kernel


theorem l00In_is {w : World} {x hi Q : Int} {bb : Bool} {n m : Nat} (hb : inB x 0 Q = bb) (hq : hi = Q) :
    Calls Try.prog 26 #[.int .i64 x, .int .i64 0, .int .i64 hi] (w.drewN (n + m)) fun e w' => e = .returned (.bool bb) ∧ ∃ k, w' = w.drewN (n + k) := by
  subst hq
  refine (spec_l00In_c _ _ _ _).mono ?_
  rintro e w' ⟨rfl, rfl⟩
  exact ⟨by rw [hb], m, rfl⟩


end Go.Proofs.Ytepdjehbgkfjhaa
