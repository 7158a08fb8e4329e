/-
  Contracts of the laws on codes: what marks and what is held.
  Conditions: lengths at most 1099511627776.
-/
import Derived.Test.YtkmfjadlobpbkaaSD
import Derived.Test.YtkmfjadlobpbkaaMP
import Derived.Test.YtkmfjadlobpbkaaVC
namespace Go.Proofs.Ytkmfjadlobpbkaa
open Go.RowKit

theorem cell_apartS {w w' : World} {u : Value} (hg : w.grownBy w' u.ownBlock) {c d : Nat} (hu : In u c d) {p : Addr} (hp : p.block < w.heap.size) (hs : p.block < c ∨ d ≤ p.block) : w'.cell? p = w.cell? p :=
  World.cell?_of_block (hg.block p.block hp fun he => by
    have := hu p.block he.symm
    omega)


theorem grown_allocC {w w' : World} {o : Obj} {row : Option Nat} (h : (w.alloc o).grownBy w' row) : w.grownBy w' row := by
  have hb := (Below.refl w.heap.size w).alloc (Nat.le_refl _) o
  exact ⟨h.os.trans hb.os, h.tape.trans hb.tape, h.output.trans hb.output, Nat.le_trans hb.size h.size, fun i hi hne => (h.block i (Nat.lt_of_lt_of_le hi hb.size) hne).trans (hb.block i hi)⟩
set_option maxRecDepth 100000 in
theorem markCode_c (w : World) (base : Nat) (A : Option Addr) (n cap : Nat) (xs : List Value) (hn : n ≤ 1099511627776) (k : Int) (h0 : 0 ≤ k) (hk : k ≤ 1099511627776) (ho : w.ownsRow base 2 1 (.slice A n cap) n xs) :
    Calls Try.prog 10 #[.agg #[.slice A n cap], .int .i64 k] w fun e w' => e = .returned (.int .i64 (k + n)) ∧ w'.ownsRow base 2 1 (.slice A n cap) n (marks (fun q => .int .i64 q) k n) ∧ w.grownBy w' (Value.slice A n cap).ownBlock := by
  have ho1 := own_below ho ((Below.refl w.heap.size w).alloc (Nat.le_refl _) (Obj.cells #[.slice A n cap] 24)) (Nat.le_refl _)
  go_enter Try.func10, Try.ntmps10
  go_wp2_with (go_at_call 9; refine (markInt64S_c _ base A n cap xs hn k h0 hk ho1).mono ?_; rintro e w' ⟨rfl, ho2, hg⟩)
  go_ret
  exact ⟨rfl, ho2, grown_allocC hg⟩
set_option maxRecDepth 100000 in
theorem heldCode_c (w : World) (A : Option Addr) (n cap : Nat) (hn : n ≤ 1099511627776) (k : Int) (h0 : 0 ≤ k) (hk : k ≤ 1099511627776) (hx : Sl w w.heap.size A (marks (fun q => .int .i64 q) k n)) :
    Calls Try.prog 11 #[.agg #[.slice A n cap], .int .i64 k] w fun e w' => e = .returned (.int .i64 (k + n)) ∧ Below w.heap.size w w' := by
  have hB := (Below.refl w.heap.size w).alloc (Nat.le_refl _) (Obj.cells #[.slice A n cap] 24)
  have hH := Lib.hid (heldInt64S_c (w.alloc (Obj.cells #[.slice A n cap] 24)) _ A n cap hn k h0 hk (hx.alloc (Nat.le_refl _) _))
  have hkn : 0 ≤ k + (n : Int) := by omega
  clear hx
  go_enter Try.func11, Try.ntmps11
  go_wp2_with (go_at_call 26; refine hH.out.mono ?_; rintro e w' ⟨rfl, m, rfl⟩)
  go_ret
  exact ⟨rfl, below_drewN hB _⟩

theorem codeB_len {xs : List Int} (h : codeB xs = true) : xs.length ≤ 64 := by
  unfold codeB at h
  simp only [Bool.and_eq_true, decide_eq_true_eq] at h
  omega

end Go.Proofs.Ytkmfjadlobpbkaa
