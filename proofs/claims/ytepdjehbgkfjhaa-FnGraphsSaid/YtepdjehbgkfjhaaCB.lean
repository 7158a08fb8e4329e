/-
  Contracts: bounds of numbers and of lists of numbers.
  Conditions: slices are read in memory that is there.
-/
import Derived.Test.YtepdjehbgkfjhaaR
namespace Go.Proofs.Ytepdjehbgkfjhaa
open Go.RowKit

/-- a number lies within bounds -/
def inB (n lo hi : Int) : Bool := decide (lo ≤ n) && decide (n ≤ hi)
theorem inB_true {n lo hi : Int} : inB n lo hi = true ↔ lo ≤ n ∧ n ≤ hi := by simp [inB]
theorem inB_false {n lo hi : Int} : inB n lo hi = false ↔ n < lo ∨ hi < n := by
  rw [← Bool.not_eq_true, inB_true]; omega


theorem impl_within_c (w : World) (n lo hi : Int) : Calls Try.prog 20 #[.int .i64 n, .int .i64 lo, .int .i64 hi] w fun e w' => e = .returned (.bool (inB n lo hi)) ∧ w = w' := by
  by_cases h : lo ≤ n
  · go_enter Try.func20, Try.ntmps20
    go_wp2
    go_ret
    exact ⟨ret_bool (by simp [inB, h]), rfl⟩
  · go_enter Try.func20, Try.ntmps20
    go_wp2
    go_ret
    exact ⟨ret_bool (inB_false.2 (.inl (by omega))).symm, rfl⟩


theorem spec_l00In_c (w : World) (n lo hi : Int) : Calls Try.prog 26 #[.int .i64 n, .int .i64 lo, .int .i64 hi] w fun e w' => e = .returned (.bool (inB n lo hi)) ∧ w = w' := by
  by_cases h : lo ≤ n
  · go_enter Try.func26, Try.ntmps26
    go_wp2
    go_ret
    exact ⟨ret_bool (by simp [inB, h]), rfl⟩
  · go_enter Try.func26, Try.ntmps26
    go_wp2
    go_ret
    exact ⟨ret_bool (inB_false.2 (.inl (by omega))).symm, rfl⟩




theorem all_snoc {α : Type} (p : α → Bool) (xs : List α) (k : Nat) (hk : k < xs.length) (h : (xs.take k).all p = true) (h1 : p xs[k] = true) : (xs.take (k + 1)).all p = true := by
  rw [List.take_succ_eq_append_getElem hk, List.all_append, h]
  simp [h1]
theorem all_not {α : Type} (p : α → Bool) (xs : List α) (k : Nat) (hk : k < xs.length) (h1 : p xs[k] = false) : xs.all p = false := by
  rw [← Bool.not_eq_true, List.all_eq_true]
  intro h
  have := h _ (List.getElem_mem hk)
  rw [h1] at this
  cases this



end Go.Proofs.Ytepdjehbgkfjhaa
