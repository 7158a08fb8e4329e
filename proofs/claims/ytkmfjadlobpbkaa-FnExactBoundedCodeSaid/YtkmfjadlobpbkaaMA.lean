/-
  Contracts: weights of letters, of both; numbers and bunches compared.
  Conditions: lengths at most 1048576.
-/
import Derived.Test.YtkmfjadlobpbkaaCB
import Derived.Test.YtkmfjadlobpbkaaH
namespace Go.Proofs.Ytkmfjadlobpbkaa
open Go.RowKit

def weightsB (xs : List Int) : Bool := decide (1 ≤ xs.length) && decide (xs.length ≤ 16) && xs.all fun x => inB x 0 1000000


set_option maxRecDepth 100000 in
theorem impl_areWeights_c (w : World) (B : Nat) (A : Option Addr) (n cap : Nat) (xs : List Int) (hl : xs.length = n) (hn : n ≤ 1048576) (hx : Sl w B A (xs.map (Value.int .i64))) :
    Calls Try.prog 18 #[.slice A n cap] w fun e w' => e = .returned (.bool (weightsB xs)) ∧ ∃ q, w' = w.drewN q := by
  have HC := Lib.hid (impl_areWithin_c w B A n cap xs hl (by omega) hx 0 1000000)
  have hw : weightsB xs = (decide (1 ≤ n) && decide (n ≤ 16) && xs.all fun x => inB x 0 1000000) := by unfold weightsB; rw [hl]
  rw [hw]
  clear hw hx
  by_cases h1 : 1 ≤ n
  · by_cases h2 : n ≤ 16
    · have h1d : decide ((1 : Int) ≤ (n : Int)) = true := decide_eq_true (by omega)
      have h2d : decide ((n : Int) ≤ 16) = true := decide_eq_true (by omega)
      rw [decide_eq_true h1, decide_eq_true h2, Bool.true_and, Bool.true_and]
      obtain ⟨z, hz⟩ : ∃ z, (xs.all fun x => inB x 0 1000000) = z := ⟨_, rfl⟩
      rw [hz] at HC ⊢
      clear hz
      go_enter Try.func18, Try.ntmps18
      go_wp2_with fail
      refine HC.out.mono ?_
      rintro e w' ⟨rfl, q, rfl⟩
      go_wp2
      go_ret
      exact ⟨rfl, _, rfl⟩
    · have h1d : decide ((1 : Int) ≤ (n : Int)) = true := decide_eq_true (by omega)
      have h2d : decide ((n : Int) ≤ 16) = false := decide_eq_false (by omega)
      rw [decide_eq_false h2, Bool.and_false, Bool.false_and]
      go_enter Try.func18, Try.ntmps18
      go_wp2
      go_ret
      exact ⟨rfl, 0, rfl⟩
  · have h1d : decide ((1 : Int) ≤ (n : Int)) = false := decide_eq_false (by omega)
    rw [decide_eq_false h1, Bool.false_and, Bool.false_and]
    go_enter Try.func18, Try.ntmps18
    go_wp2
    go_ret
    exact ⟨rfl, 0, rfl⟩


set_option maxRecDepth 100000 in
theorem spec_l04Weights_c (w : World) (B : Nat) (A : Option Addr) (n cap : Nat) (xs : List Int) (hl : xs.length = n) (hn : n ≤ 1048576) (hx : Sl w B A (xs.map (Value.int .i64))) :
    Calls Try.prog 12 #[.slice A n cap] w fun e w' => e = .returned (.bool (weightsB xs)) ∧ w' = w := by
  have hw : weightsB xs = (decide (1 ≤ n) && decide (n ≤ 16) && xs.all fun x => inB x 0 1000000) := by unfold weightsB; rw [hl]
  rw [hw]
  clear hw
  go_enter Try.func12, Try.ntmps12
  go_wp2
  go_loop [3] (fun i => ∃ k : Nat, k ≤ n ∧ i = .int .i64 k ∧ (xs.take k).all (fun x => inB x 0 1000000) = true) (fun i => n - (intOf i).toNat)
  case atStart => exact ⟨0, Nat.zero_le _, rfl, rfl⟩
  case round =>
    obtain ⟨k, hk, rfl, ha⟩ := hrel
    have HA := Lib.hid ha
    clear ha
    by_cases hlt : k < n
    · obtain ⟨b, off, rfl, hbb, hc1⟩ := hx.get k (by omega)
      have hkx : k < xs.length := by omega
      have hsn := fun h => all_snoc (fun x => inB x 0 1000000) xs k hkx HA.out h
      have hno := fun h => all_not (fun x => inB x 0 1000000) xs k hkx h
      obtain ⟨x, hxx⟩ : ∃ x, xs[k]'hkx = x := ⟨_, rfl⟩
      rw [hxx] at hc1 hsn hno
      have HSN := Lib.hid hsn
      have HNO := Lib.hid hno
      have HC := Lib.hid (fun W => spec_l00In_c W x 0 1000000)
      clear hsn hno hxx hx
      cases hi : inB x 0 1000000
      · rw [hi] at HC
        have HI := Lib.hid hi
        clear hi
        go_wp2_with (go_at_call 13; refine (HC.out _).mono ?_; rintro e w' ⟨rfl, rfl⟩)
        go_ret
        exact ⟨ret_bool (by rw [HNO.out HI.out, Bool.and_false]), rfl⟩
      · rw [hi] at HC
        have HI := Lib.hid hi
        clear hi
        go_wp2_with (go_at_call 13; refine (HC.out _).mono ?_; rintro e w' ⟨rfl, rfl⟩)
        go_round
        case rel => exact ⟨k + 1, hlt, by go_num, HSN.out HI.out⟩
        case measure => simp [intOf]; omega
    · obtain rfl : k = n := by omega
      have hall : (xs.all fun x => inB x 0 1000000) = true := by have := HA.out; rwa [take_all hl] at this
      have HALL := Lib.hid hall
      clear hall hx
      by_cases h1 : 1 ≤ k
      · by_cases h2 : k ≤ 16
        · have h1d : decide ((1 : Int) ≤ (k : Int)) = true := decide_eq_true (by omega)
          have h2d : decide ((k : Int) ≤ 16) = true := decide_eq_true (by omega)
          go_wp2
          go_ret
          exact ⟨ret_bool HALL.out.symm, rfl⟩
        · have h1d : decide ((1 : Int) ≤ (k : Int)) = true := decide_eq_true (by omega)
          have h2d : decide ((k : Int) ≤ 16) = false := decide_eq_false (by omega)
          go_wp2
          go_ret
          exact ⟨rfl, rfl⟩
      · have h1d : decide ((1 : Int) ≤ (k : Int)) = false := decide_eq_false (by omega)
        go_wp2
        go_ret
        exact ⟨rfl, rfl⟩


def cmpI (a b : Int) : Int := if a < b then -1 else if b < a then 1 else 0
set_option maxRecDepth 100000 in
theorem isNaN_i64_c (w : World) (a : Int) : Calls Try.prog 36 #[.int .i64 a] w fun e w' => e = .returned (.bool false) ∧ w' = w := by
  have h : (a != a) = false := by simp
  go_enter Try.func36, Try.ntmps36
  go_wp2
  go_ret
  exact ⟨rfl, rfl⟩
set_option maxRecDepth 100000 in
theorem Compare_i64_c (w : World) (a b : Int) : Calls Try.prog 30 #[.int .i64 a, .int .i64 b] w fun e w' => e = .returned (.int .i64 (cmpI a b)) ∧ w' = w := by
  unfold cmpI
  by_cases h1 : a < b
  · rw [if_pos h1]
    go_enter Try.func30, Try.ntmps30
    go_wp2_with (go_at_call 36; refine (isNaN_i64_c _ _).mono ?_; rintro e w' ⟨rfl, rfl⟩)
    go_ret
    exact ⟨rfl, rfl⟩
  · rw [if_neg h1]
    by_cases h2 : b < a
    · rw [if_pos h2]
      go_enter Try.func30, Try.ntmps30
      go_wp2_with (go_at_call 36; refine (isNaN_i64_c _ _).mono ?_; rintro e w' ⟨rfl, rfl⟩)
      go_ret
      exact ⟨rfl, rfl⟩
    · rw [if_neg h2]
      go_enter Try.func30, Try.ntmps30
      go_wp2_with (go_at_call 36; refine (isNaN_i64_c _ _).mono ?_; rintro e w' ⟨rfl, rfl⟩)
      go_ret
      exact ⟨rfl, rfl⟩


set_option maxRecDepth 100000 in
theorem impl_byWeight_c (w : World) (a b : Int) (u v : Value) : Calls Try.prog 22 #[.agg #[.int .i64 a, u], .agg #[.int .i64 b, v]] w fun e w' => e = .returned (.int .i64 (cmpI a b)) ∧ Below w.heap.size w w' := by
  go_enter Try.func22, Try.ntmps22
  go_wp2_with (go_at_call 30; refine (Compare_i64_c _ _ _).mono ?_; rintro e w' ⟨rfl, rfl⟩)
  go_ret
  exact ⟨rfl, ((Below.refl _ _).alloc (Nat.le_refl _) _).alloc (by simp) _⟩

end Go.Proofs.Ytkmfjadlobpbkaa
