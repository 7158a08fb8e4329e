/-
  Contracts: the least tree, of both.
  Conditions: 1 to 1048576 trees, of two cells each (weight; letters, or a set).
-/
import Derived.Test.YtkmfjadlobpbkaaMA
import Derived.Deep.QuietTactic
import Derived.BigQuiet
import Derived.Lib.Hide
namespace Go.Proofs.Ytkmfjadlobpbkaa
open Go.RowKit

/-- the first one with the least weight among so many and one more -/
def leastK (ws : List Int) : Nat → Nat
  | 0 => 0
  | k + 1 => if ws.getD (k + 1) 0 < ws.getD (leastK ws k) 0 then k + 1 else leastK ws k
def leastI (ws : List Int) : Nat := leastK ws (ws.length - 1)
theorem leastK_le (ws : List Int) : ∀ k, leastK ws k ≤ k
  | 0 => Nat.le_refl _
  | k + 1 => by
    have := leastK_le ws k
    unfold leastK
    split <;> omega
theorem leastI_lt {ws : List Int} (h : 1 ≤ ws.length) : leastI ws < ws.length := by
  have := leastK_le ws (ws.length - 1)
  unfold leastI
  omega
/-- the least is not above any, and it is the first of its weight -/
theorem leastK_min (ws : List Int) : ∀ k, (∀ i, i ≤ k → ws.getD (leastK ws k) 0 ≤ ws.getD i 0) ∧ ∀ i, i < leastK ws k → ws.getD (leastK ws k) 0 < ws.getD i 0
  | 0 => ⟨fun i hi => by obtain rfl : i = 0 := by omega
                         exact Int.le_refl _, fun i hi => absurd hi (Nat.not_lt_zero _)⟩
  | k + 1 => by
    obtain ⟨h1, h2⟩ := leastK_min ws k
    have hle := leastK_le ws k
    unfold leastK
    split
    · rename_i h
      refine ⟨fun i hi => ?_, fun i hi => ?_⟩
      · by_cases e : i = k + 1
        · subst e; exact Int.le_refl _
        · have := h1 i (by omega); omega
      · have := h1 i (by omega); omega
    · rename_i h
      refine ⟨fun i hi => ?_, h2⟩
      by_cases e : i = k + 1
      · subst e; omega
      · exact h1 i (by omega)
/-- weights that lie two cells apart -/
def Bn (W : World) (b off : Nat) (ws : List Int) : Prop := ∀ i, i < ws.length → W.cell? ⟨b, off + i * 2, none⟩ = some (.int .i64 (ws.getD i 0))


end Go.Proofs.Ytkmfjadlobpbkaa
