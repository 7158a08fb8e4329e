/-
  Contract: the laws' marking of a code's rows; cells apart from marked rows.
  Conditions: lengths at most 1099511627776.
-/
import Derived.Test.YtabblblnghljlaaH
namespace Go.Proofs.Ytabblblnghljlaa
open Go.RowKit

theorem cell_apart {w w' : World} {u : Value} {p : Addr} (hg : w.grownBy w' u.ownBlock) {c d : Nat} (hu : In u c d) (hp : p.block < w.heap.size) (hs : p.block < c ∨ d ≤ p.block) : w'.cell? p = w.cell? p := by
  have h1 := hg.block p.block hp (fun he => by
    have h2 := hu p.block he.symm
    omega)
  unfold World.cell?
  rw [h1]

theorem grown_alloc {w w' : World} {o : Obj} {row : Option Nat} (h : (w.alloc o).grownBy w' row) : w.grownBy w' row := by
  have hb := (Below.refl w.heap.size w).alloc (Nat.le_refl _) o
  exact ⟨h.os.trans hb.os, h.tape.trans hb.tape, h.output.trans hb.output, Nat.le_trans hb.size h.size, fun i hi hne => (h.block i (Nat.lt_of_lt_of_le hi hb.size) hne).trans (hb.block i hi)⟩
set_option maxRecDepth 100000 in
theorem markParity_c (w : World) (base : Nat) (m : Int) (A : Option Addr) (n cap : Nat) (xs : List Value) (hn : n ≤ 1099511627776) (k : Int) (h0 : 0 ≤ k) (hk : k ≤ 1099511627776) (ho : w.ownsRow base 2 1 (.slice A n cap) n xs) :
    Calls Try.prog 16 #[.agg #[.int .i64 m, .slice A n cap], .int .i64 k] w fun e w' => e = .returned (.int .i64 (k + n)) ∧ w'.ownsRow base 2 1 (.slice A n cap) n (marks (fun q => .int .i64 q) k n) ∧ w.grownBy w' (Value.slice A n cap).ownBlock := by
  have ho1 := own_below ho ((Below.refl w.heap.size w).alloc (Nat.le_refl _) (Obj.cells #[.int .i64 m, .slice A n cap] 27)) (Nat.le_refl _)
  go_enter Try.func16, Try.ntmps16
  go_wp2_with (go_at_call 29; refine (markInt64S_c _ base A n cap xs hn k h0 hk ho1).mono ?_; rintro e w' ⟨rfl, ho2, hg⟩)
  go_ret
  exact ⟨rfl, ho2, grown_alloc hg⟩

end Go.Proofs.Ytabblblnghljlaa
