/-
  Contracts: soft numbers of bits, and bits of soft numbers.
  Conditions: lengths at most 1048576.
-/
import Derived.Test.YtlhffpjbjicfnaaCA
import Derived.Test.YtlhffpjbjicfnaaH
namespace Go.Proofs.Ytlhffpjbjicfnaa
open Go.RowKit


def softSign (s : Nat) (b : Bool) : Nat := if b then s else Op.negFloat .f32 s
def softOkB (n : Nat) (s : Nat) : Bool := decide (n ≤ 160) && finB (fl .f32 s)
def softOfL (bits : List Bool) (s : Nat) : List Nat := if softOkB bits.length s then bits.map (softSign s) else []




theorem softOfL_len (xs : List Bool) (s : Nat) : (softOfL xs s).length ≤ 160 := by
  unfold softOfL softOkB
  split
  · rename_i h
    simp only [Bool.and_eq_true, decide_eq_true_eq] at h
    rw [List.length_map]
    exact h.1
  · exact Nat.zero_le _




def hardB (x : Nat) : Bool := FloatKind.f32.format.order x 0 == some Ordering.gt
def hardOfL (xs : List Nat) : List Bool := if softB xs then xs.map hardB else []
theorem hardOfL_len (xs : List Nat) : (hardOfL xs).length ≤ xs.length := by
  unfold hardOfL
  split
  · rw [List.length_map]; exact Nat.le_refl _
  · exact Nat.zero_le _





end Go.Proofs.Ytlhffpjbjicfnaa
