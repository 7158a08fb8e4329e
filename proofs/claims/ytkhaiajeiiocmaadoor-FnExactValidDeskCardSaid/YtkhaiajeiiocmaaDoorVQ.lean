/-
  Contracts: sums of chances, of the program and of the reference.
  Conditions: lengths at most 1048576.
-/
import Derived.Test.YtkhaiajeiiocmaaDoorCB
import Derived.Test.YtkhaiajeiiocmaaDoorCA
import Derived.Test.YtkhaiajeiiocmaaDoorVR
namespace Go.Proofs.YtkhaiajeiiocmaaDoor
open Go.RowKit

/-- the sum of numbers, up to the bits of a NaN -/
def sumO (xs : List Nat) : Nat → Option Nat | 0 => some 0 | k + 1 => fop .add .f32 (sumO xs k) (fl .f32 (xs.getD k 0))
theorem fl_zero : fl .f32 0 = some 0 := by decide


set_option maxRecDepth 100000 in
set_option maxHeartbeats 1000000 in
theorem impl_addUp_c (w : World) (B : Nat) (A : Option Addr) (n cap : Nat) (xs : List Nat) (hl : xs.length = n) (hn : n ≤ 1048576) (hx : Sl w B A (xs.map (Value.float .f32))) :
    Calls Tryd.prog 45 #[.slice A n cap] w fun e w' => ∃ v, e = .returned (.float .f32 v) ∧ fl .f32 v = sumO xs n ∧ ∃ q, w' = w.drewN q := by
  go_enter Tryd.func45, Tryd.ntmps45
  go_wp2
  go_loopw [3, 8] (fun o i wr => ∃ k q v : Nat, k ≤ n ∧ i = .int .i64 k ∧ o = .float .f32 v ∧ fl .f32 v = sumO xs k ∧ wr = w.drewN q) (fun _ i _ => n - (intOf i).toNat)
  case atStart => exact ⟨0, 0, 0, Nat.zero_le _, rfl, rfl, fl_zero, rfl⟩
  case round =>
    obtain ⟨k, q, v, hk, rfl, rfl, hv, rfl⟩ := hrel
    have HV := Lib.hid hv
    clear hv
    by_cases hlt : k < n
    · obtain ⟨b, off, rfl, hbb, hc1⟩ := hx.get k (by omega)
      have hg : xs.getD k 0 = xs[k]'(by omega) := by simp [List.getD, show k < xs.length by omega]
      have hs : sumO xs (k + 1) = fop .add .f32 (sumO xs k) (fl .f32 (xs[k]'(by omega))) := by rw [← hg]; rfl
      obtain ⟨y, hy⟩ : ∃ y, xs[k]'(by omega) = y := ⟨_, rfl⟩
      rw [hy] at hs hc1
      have HS := Lib.hid hs
      clear hs hg hy
      go_wp2
      go_roundw
      case rel => exact ⟨k + 1, _, _, by omega, by go_num, rfl, by rw [fl_fres, HV.out, HS.out], rfl⟩
      case measure => simp [intOf]; omega
    · have : k = n := by omega
      subst this
      go_wp2
      go_ret
      exact ⟨_, rfl, HV.out, _, rfl⟩


set_option maxRecDepth 100000 in
set_option maxHeartbeats 1000000 in
theorem spec_l02Sum_c (w : World) (B : Nat) (A : Option Addr) (n cap : Nat) (xs : List Nat) (hl : xs.length = n) (hn : n ≤ 1048576) (hx : Sl w B A (xs.map (Value.float .f32))) :
    Calls Tryd.prog 58 #[.slice A n cap] w fun e w' => ∃ v, e = .returned (.float .f32 v) ∧ fl .f32 v = sumO xs n ∧ ∃ q, w' = w.drewN q := by
  go_enter Tryd.func58, Tryd.ntmps58
  go_wp2
  go_loopw [3, 4] (fun o i wr => ∃ k q v : Nat, k ≤ n ∧ i = .int .i64 k ∧ o = .float .f32 v ∧ fl .f32 v = sumO xs k ∧ wr = w.drewN q) (fun _ i _ => n - (intOf i).toNat)
  case atStart => exact ⟨0, 0, 0, Nat.zero_le _, rfl, rfl, fl_zero, rfl⟩
  case round =>
    obtain ⟨k, q, v, hk, rfl, rfl, hv, rfl⟩ := hrel
    have HV := Lib.hid hv
    clear hv
    by_cases hlt : k < n
    · obtain ⟨b, off, rfl, hbb, hc1⟩ := hx.get k (by omega)
      have hg : xs.getD k 0 = xs[k]'(by omega) := by simp [List.getD, show k < xs.length by omega]
      have hs : sumO xs (k + 1) = fop .add .f32 (sumO xs k) (fl .f32 (xs[k]'(by omega))) := by rw [← hg]; rfl
      obtain ⟨y, hy⟩ : ∃ y, xs[k]'(by omega) = y := ⟨_, rfl⟩
      rw [hy] at hs hc1
      have HS := Lib.hid hs
      clear hs hg hy
      go_wp2
      go_roundw
      case rel => exact ⟨k + 1, _, _, by omega, by go_num, rfl, by rw [fl_fres, HV.out, HS.out], rfl⟩
      case measure => simp [intOf]; omega
    · have : k = n := by omega
      subst this
      go_wp2
      go_ret
      exact ⟨_, rfl, HV.out, _, rfl⟩

end Go.Proofs.YtkhaiajeiiocmaaDoor
