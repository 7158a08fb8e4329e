/-
  Contracts: bits turned in place, and places of a power.
  Conditions: lengths are powers of two up to 32 where bits are turned.
-/
import Derived.Test.YtopeidmafalklaaCB
import Derived.Test.YtopeidmafalklaaH
import Derived.Test.YtopeidmafalklaaPT
import Derived.StillTailTactics
namespace Go.Proofs.Ytopeidmafalklaa
open Go.RowKit

theorem bool_cell {w : World} {base g n cap : Nat} {l : List Bool} (h : w.ownsRow base 4 1 (.slice (some ⟨g, 0, none⟩) n cap) n (l.map Value.bool)) {q : Nat} (hq : q < n) (hl : l.length = n) :
    w.cell? ⟨g, q, none⟩ = some (.bool (l.getD q false)) := by
  rw [h.cellAt q (by omega)]
  simp [List.getD, show q < l.length by omega]

theorem and_even : ∀ h ∈ [1, 2, 4, 8, 16], ∀ i < 32, (bits BinOp.and IntKind.i64 (i : Nat) (h : Nat) == 0) = decide (i / h % 2 = 0) := by decide +kernel



def pcI (x : Int) : Int := x % 2 + x / 2 % 2 + x / 4 % 2 + x / 8 % 2 + x / 16 % 2 + x / 32 % 2
set_option maxRecDepth 100000 in
set_option maxHeartbeats 1000000 in
theorem OnesCount64_c (w : World) (x : Int) (h0 : 0 ≤ x) (h1 : x ≤ 32) : Calls Try.prog 98 #[.int .u64 x] w fun e w' => e = .returned (.int .i64 (pcI x)) ∧ w = w' := by
  go_enter Try.func98, Try.ntmps98
  go_wp2
  go_ret
  refine ⟨ret_int ?_, rfl⟩
  obtain ⟨n, hn, rfl⟩ : ∃ n : Nat, n < 33 ∧ x = n := ⟨x.toNat, by omega, by omega⟩
  clear h0 h1 w
  revert n
  decide +kernel





def isTwo (n : Nat) : Bool := n == 1 || n == 2 || n == 4 || n == 8 || n == 16 || n == 32
theorem isTwo_mem {n : Nat} (h : isTwo n = true) : n ∈ [1, 2, 4, 8, 16, 32] := by
  unfold isTwo at h
  simp at h ⊢
  omega
def polarTurnL (l : List Bool) : List Bool := if isTwo l.length then turnL l else []
theorem polarTurnL_len (l : List Bool) : (polarTurnL l).length ≤ l.length := by
  unfold polarTurnL
  split
  · rw [turnL_len]; exact Nat.le_refl _
  · exact Nat.zero_le _


theorem pc_two : ∀ n < 33, 1 ≤ n → (pcI ((n : Nat) : Int) != 1) = !isTwo n := by decide +kernel

end Go.Proofs.Ytopeidmafalklaa
