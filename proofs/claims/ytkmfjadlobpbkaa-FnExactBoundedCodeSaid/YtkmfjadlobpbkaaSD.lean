/-
  Contracts: struct values that are saved: copies, sizes, comparisons.
  Conditions: lengths at most 1048576 where they are copied.
-/
import Derived.Test.YtkmfjadlobpbkaaSC
import Derived.Deep.RegionHeld3
namespace Go.Proofs.Ytkmfjadlobpbkaa
open Go.RowKit




set_option maxRecDepth 100000 in
set_option maxHeartbeats 1000000 in
theorem eqCode_t (w : World) (A0 A0r : Option Addr) (n0 cap0 cap0r : Nat) (xs0 : List Int) (hl0 : xs0.length = n0) (hn0 : n0 ≤ 1099511627776) (hx0 : Sl w w.heap.size A0 (xs0.map (Value.int .i64))) (hy0 : Sl w w.heap.size A0r (xs0.map (Value.int .i64))) :
    Calls Try.prog 7 #[.agg #[.slice A0 n0 cap0], .agg #[.slice A0r n0 cap0r]] w fun e w' => e = .returned (.bool true) ∧ Below w.heap.size w w' := by
  have hB := ((Below.refl w.heap.size w).alloc (Nat.le_refl _) (Obj.cells #[.slice A0 n0 cap0] 24)).alloc (by simp) (Obj.cells #[.slice A0r n0 cap0r] 24)
  have HB := Lib.hid hB
  clear hB
  go_enter Try.func7, Try.ntmps7
  go_wp2_with fail
  refine (eqInt64S_t _ A0 A0r n0 cap0 cap0r _ _ xs0 hl0 hn0 (((hx0.alloc (Nat.le_refl _) _).alloc (by simp) _)) (((hy0.alloc (Nat.le_refl _) _).alloc (by simp) _))).mono ?_
  rintro e w' ⟨rfl, q0, rfl⟩
  go_wp2
  go_ret
  exact ⟨rfl, (below_drewN HB.out _)⟩








end Go.Proofs.Ytkmfjadlobpbkaa
