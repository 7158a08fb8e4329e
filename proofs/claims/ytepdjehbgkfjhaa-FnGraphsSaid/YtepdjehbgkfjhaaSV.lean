/-
  Contracts: which coders are such.
  Conditions: slices are read in memory that is there.
-/
import Derived.Test.YtepdjehbgkfjhaaSC
namespace Go.Proofs.Ytepdjehbgkfjhaa
open Go.RowKit


def validCoderB (m : Int) (xs : List Int) : Bool := (inB m 1 4 && decide (1 ≤ xs.length) && decide (xs.length ≤ 4)) && xs.all fun x => inB x 1 (2 * 2 ^ m.toNat - 1)

theorem vc_no {m : Int} {xs : List Int} (h : (inB m 1 4 && decide (1 ≤ xs.length) && decide (xs.length ≤ 4)) = false) : validCoderB m xs = false := by
  unfold validCoderB; rw [h]; rfl
theorem vc_yes {m : Int} {xs : List Int} (h : (inB m 1 4 && decide (1 ≤ xs.length) && decide (xs.length ≤ 4)) = true) : validCoderB m xs = xs.all fun x => inB x 1 (2 * 2 ^ m.toNat - 1) := by
  unfold validCoderB; rw [h]; rfl
theorem vc_q {m : Int} (h : inB m 1 4 = true) : (m = 1 ∧ (2 * 2 ^ m.toNat - 1 : Int) = 3) ∨ (m = 2 ∧ (2 * 2 ^ m.toNat - 1 : Int) = 7) ∨ (m = 3 ∧ (2 * 2 ^ m.toNat - 1 : Int) = 15) ∨ (m = 4 ∧ (2 * 2 ^ m.toNat - 1 : Int) = 31) := by
  rw [inB_true] at h
  have h6 : m = 1 ∨ m = 2 ∨ m = 3 ∨ m = 4 := by omega
  rcases h6 with rfl | rfl | rfl | rfl <;> decide

theorem within_is {w : World} {x lo hi : Int} {bb : Bool} {n : Nat} (hb : inB x lo hi = bb) :
    Calls Try.prog 20 #[.int .i64 x, .int .i64 lo, .int .i64 hi] (w.drewN n) fun e w' => e = .returned (.bool bb) ∧ ∃ k, w' = w.drewN k := by
  refine (impl_within_c _ _ _ _).mono ?_
  rintro e w' ⟨rfl, rfl⟩
  exact ⟨by rw [hb], _, rfl⟩

theorem l00In_at {w : World} {x lo hi : Int} {bb : Bool} {n m : Nat} (hb : inB x lo hi = bb) :
    Calls Try.prog 26 #[.int .i64 x, .int .i64 lo, .int .i64 hi] (w.drewN (n + m)) fun e w' => e = .returned (.bool bb) ∧ ∃ k, w' = w.drewN (n + k) := by
  refine (spec_l00In_c _ _ _ _).mono ?_
  rintro e w' ⟨rfl, rfl⟩
  exact ⟨by rw [hb], _, rfl⟩


end Go.Proofs.Ytepdjehbgkfjhaa
