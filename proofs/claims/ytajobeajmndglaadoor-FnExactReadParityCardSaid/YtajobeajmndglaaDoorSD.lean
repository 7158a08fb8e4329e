/-
  Contracts: struct values that are saved: copies, sizes, comparisons.
  Conditions: lengths at most 1048576 where they are copied.
-/
import Derived.Test.YtajobeajmndglaaDoorSC
import Derived.Deep.RegionHeld3
namespace Go.Proofs.YtajobeajmndglaaDoor
open Go.RowKit




set_option maxRecDepth 100000 in
set_option maxHeartbeats 1000000 in
theorem eqCode_t (w : World) (A0 A0r : Option Addr) (n0 cap0 cap0r : Nat) (xs0 : List Int) (hl0 : xs0.length = n0) (hn0 : n0 ≤ 1099511627776) (hx0 : Sl w w.heap.size A0 (xs0.map (Value.int .i64))) (hy0 : Sl w w.heap.size A0r (xs0.map (Value.int .i64))) :
    Calls Tryd.prog 7 #[.agg #[.slice A0 n0 cap0], .agg #[.slice A0r n0 cap0r]] w fun e w' => e = .returned (.bool true) ∧ Below w.heap.size w w' := by
  have hB := ((Below.refl w.heap.size w).alloc (Nat.le_refl _) (Obj.cells #[.slice A0 n0 cap0] 24)).alloc (by simp) (Obj.cells #[.slice A0r n0 cap0r] 24)
  have HB := Lib.hid hB
  clear hB
  go_enter Tryd.func7, Tryd.ntmps7
  go_wp2_with fail
  refine (eqInt64S_t _ A0 A0r n0 cap0 cap0r _ _ xs0 hl0 hn0 (((hx0.alloc (Nat.le_refl _) _).alloc (by simp) _)) (((hy0.alloc (Nat.le_refl _) _).alloc (by simp) _))).mono ?_
  rintro e w' ⟨rfl, q0, rfl⟩
  go_wp2
  go_ret
  exact ⟨rfl, (below_drewN HB.out _)⟩



set_option maxRecDepth 100000 in
set_option maxHeartbeats 1000000 in
theorem eqParity_t (w : World) (a0 : Int) (A1 A1r : Option Addr) (n1 cap1 cap1r : Nat) (xs1 : List Int) (hl1 : xs1.length = n1) (hn1 : n1 ≤ 1099511627776) (hx1 : Sl w w.heap.size A1 (xs1.map (Value.int .i64))) (hy1 : Sl w w.heap.size A1r (xs1.map (Value.int .i64))) :
    Calls Tryd.prog 12 #[.agg #[.int .i64 a0, .slice A1 n1 cap1], .agg #[.int .i64 a0, .slice A1r n1 cap1r]] w fun e w' => e = .returned (.bool true) ∧ Below w.heap.size w w' := by
  have he0 : (a0 == a0) = true := by simp
  have hB := ((Below.refl w.heap.size w).alloc (Nat.le_refl _) (Obj.cells #[.int .i64 a0, .slice A1 n1 cap1] 31)).alloc (by simp) (Obj.cells #[.int .i64 a0, .slice A1r n1 cap1r] 31)
  have HB := Lib.hid hB
  clear hB
  go_enter Tryd.func12, Tryd.ntmps12
  go_wp2_with fail
  refine (eqInt64S_t _ A1 A1r n1 cap1 cap1r _ _ xs1 hl1 hn1 (((hx1.alloc (Nat.le_refl _) _).alloc (by simp) _)) (((hy1.alloc (Nat.le_refl _) _).alloc (by simp) _))).mono ?_
  rintro e w' ⟨rfl, q0, rfl⟩
  go_wp2
  go_ret
  exact ⟨rfl, (below_drewN HB.out _)⟩






end Go.Proofs.YtajobeajmndglaaDoor
