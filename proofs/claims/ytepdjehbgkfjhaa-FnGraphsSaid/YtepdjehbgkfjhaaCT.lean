/-
  Contracts: bits turned in place, and places of a power.
  Conditions: lengths are powers of two up to 32 where bits are turned.
-/
import Derived.Test.YtepdjehbgkfjhaaCB
import Derived.Test.YtepdjehbgkfjhaaH
import Derived.Test.YtepdjehbgkfjhaaPT
import Derived.StillTailTactics
namespace Go.Proofs.Ytepdjehbgkfjhaa
open Go.RowKit

theorem bool_cell {w : World} {base g n cap : Nat} {l : List Bool} (h : w.ownsRow base 4 1 (.slice (some ⟨g, 0, none⟩) n cap) n (l.map Value.bool)) {q : Nat} (hq : q < n) (hl : l.length = n) :
    w.cell? ⟨g, q, none⟩ = some (.bool (l.getD q false)) := by
  rw [h.cellAt q (by omega)]
  simp [List.getD, show q < l.length by omega]

theorem and_even : ∀ h ∈ [1, 2, 4, 8, 16], ∀ i < 32, (bits BinOp.and IntKind.i64 (i : Nat) (h : Nat) == 0) = decide (i / h % 2 = 0) := by decide +kernel



def pcI (x : Int) : Int := x % 2 + x / 2 % 2 + x / 4 % 2 + x / 8 % 2 + x / 16 % 2 + x / 32 % 2



set_option maxRecDepth 100000 in
set_option maxHeartbeats 400000 in
theorem Clone_bool_c (w : World) (A : Option Addr) (n cap : Nat) (l : List Bool) (hl : l.length = n) (hn : n ≤ 1099511627775) (hx : Sl w w.heap.size A (l.map Value.bool)) :
    Calls Try.prog 21 #[.slice A n cap] w fun e w' => ∃ v, e = .returned v ∧ Ow w' w.heap.size 4 v (l.map Value.bool) ∧ Below w.heap.size w w' := by
  cases A with
  | none =>
    have hn : l = [] := by
      rcases hx with h0 | ⟨b, off, he, _⟩
      · simpa using h0
      · cases he
    subst hn
    have hl0 : n = 0 := hl.symm
    subst hl0
    have he := Lib.run_eql_slice_nil (P := Try.prog)
    go_enter Try.func21, Try.ntmps21
    go_wp2
    go_ret
    exact ⟨_, rfl, World.ownsRow_nil _ _ _ _, Below.refl _ _⟩
  | some ad =>
    have he := Lib.run_eql_slice_nil (P := Try.prog)
    go_enter Try.func21, Try.ntmps21
    go_wp2_with (at_builtin; refine appS Try.underlying28 infoBool rfl (by decide) rfl _ _ rfl _ _ [] rfl (own_empty _ _ _ (Nat.le_refl _)) _ _ n cap (l.map Value.bool) rfl (by simpa using hl) (hx.alloc (Nat.le_refl _) _) one_bool (by simp; omega) (by simp) ?_; intro v' w1 ho1 hb1)
    go_ret
    exact ⟨_, rfl, by simpa using ho1, ((Below.refl _ _).alloc (Nat.le_refl _) _).trans hb1⟩


def isTwo (n : Nat) : Bool := n == 1 || n == 2 || n == 4 || n == 8 || n == 16 || n == 32
theorem isTwo_mem {n : Nat} (h : isTwo n = true) : n ∈ [1, 2, 4, 8, 16, 32] := by
  unfold isTwo at h
  simp at h ⊢
  omega
def polarTurnL (l : List Bool) : List Bool := if isTwo l.length then turnL l else []
theorem polarTurnL_len (l : List Bool) : (polarTurnL l).length ≤ l.length := by
  unfold polarTurnL
  split
  · rw [turnL_len]; exact Nat.le_refl _
  · exact Nat.zero_le _


theorem pc_two : ∀ n < 33, 1 ≤ n → (pcI ((n : Nat) : Int) != 1) = !isTwo n := by decide +kernel

end Go.Proofs.Ytepdjehbgkfjhaa
