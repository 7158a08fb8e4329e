/-
  Contracts: coders, struct values of a number and a slice.
  Conditions: slices are read in memory that is there.
-/
import Derived.Test.YtkmfjadlobpbkaaH
import Derived.Test.YtkmfjadlobpbkaaCB
import Derived.Handy
import Derived.Deep.QuietTactic
import Derived.BigQuiet
namespace Go.Proofs.Ytkmfjadlobpbkaa
open Go.RowKit

theorem below_undrew {a w : World} (h : Below a.drew.heap.size a.drew w) : Below a.heap.size a w := ⟨h.os, h.tape, h.output, h.size, h.block⟩
theorem below_undrewN {n : Nat} {a w : World} (h : Below (a.drewN n).heap.size (a.drewN n) w) : Below a.heap.size a w := ⟨h.os, h.tape, h.output, h.size, h.block⟩



/-- what is left of a number when so many are taken -/
def szr (left : Int) (n : Nat) : Int := if left - n < 0 then -1 else left - n
theorem szr_bd {left : Int} (h0 : 0 ≤ left) (h1 : left ≤ 1048576) (n : Nat) : (szr left n < 0 ∧ szr left n = -1) ∨ (0 ≤ szr left n ∧ szr left n ≤ 1048576 ∧ (n : Int) ≤ left) := by
  unfold szr
  split <;> omega


theorem same_ne {xs ys : List Int} {i : Nat} (h1 : i < xs.length) (h2 : i < ys.length) (h : xs[i] ≠ ys[i]) : (xs == ys) = false := by
  rw [beq_eq_false_iff_ne]
  rintro rfl
  exact h rfl
theorem same_eq {xs ys : List Int} (hl : xs.length = ys.length) (h : ∀ i (h1 : i < xs.length) (h2 : i < ys.length), xs[i] = ys[i]) : (xs == ys) = true := by
  rw [beq_iff_eq]
  exact List.ext_getElem hl h
theorem same_len {xs ys : List Int} (h : xs.length ≠ ys.length) : (xs == ys) = false := by
  rw [beq_eq_false_iff_ne]
  rintro rfl
  exact h rfl




def sameCoderB (m : Int) (xs : List Int) (m2 : Int) (ys : List Int) : Bool := (m == m2) && (xs == ys)
end Go.Proofs.Ytkmfjadlobpbkaa
