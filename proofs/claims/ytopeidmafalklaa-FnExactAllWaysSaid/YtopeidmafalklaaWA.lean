/-
  Contracts: a gain with what is sent, of the program and of the reference; how many bits a way has.
  Conditions: lengths at most 1048576.
-/
import Derived.Test.YtopeidmafalklaaCS
import Derived.Test.YtopeidmafalklaaSV
import Derived.Test.YtopeidmafalklaaSB
namespace Go.Proofs.Ytopeidmafalklaa
open Go.RowKit

/-- a gain, up to the bits of a NaN -/
def gainO (g : Option Nat) (sends : List Bool) (soft : List Nat) : Nat → Option Nat
  | 0 => g
  | k + 1 => fop (if sends.getD k false then .add else .sub) .f32 (gainO g sends soft k) (fl .f32 (soft.getD k 0))


set_option maxRecDepth 100000 in
set_option maxHeartbeats 1000000 in
theorem impl_gain_c (w : World) (g B B2 : Nat) (A : Option Addr) (n cap : Nat) (bs : List Bool) (hl : bs.length = n) (hn : n ≤ 1048576) (hx : Sl w B A (bs.map Value.bool)) (A2 : Option Addr) (n2 cap2 : Nat) (xs : List Nat) (hl2 : xs.length = n2) (h2 : n ≤ n2) (hn2 : n2 ≤ 1048576) (hy : Sl w B2 A2 (xs.map (Value.float .f32))) :
    Calls Try.prog 62 #[.float .f32 g, .slice A n cap, .slice A2 n2 cap2] w fun e w' => ∃ v, e = .returned (.float .f32 v) ∧ fl .f32 v = gainO (fl .f32 g) bs xs n ∧ ∃ q, w' = w.drewN q := by
  go_enter Try.func62, Try.ntmps62
  go_wp2
  go_loopw [0, 11] (fun o i wr => ∃ k q v : Nat, k ≤ n ∧ i = .int .i64 k ∧ o = .float .f32 v ∧ fl .f32 v = gainO (fl .f32 g) bs xs k ∧ wr = w.drewN q) (fun _ i _ => n - (intOf i).toNat)
  case atStart => exact ⟨0, 0, g, Nat.zero_le _, rfl, rfl, rfl, rfl⟩
  case round =>
    obtain ⟨k, q, v, hk, rfl, rfl, hv, rfl⟩ := hrel
    have HV := Lib.hid hv
    clear hv
    by_cases hlt : k < n
    · obtain ⟨b, off, rfl, hbb, hc1⟩ := hx.get k (by omega)
      obtain ⟨b2, off2, rfl, hbb2, hc2⟩ := hy.get k (by omega)
      have hg : xs.getD k 0 = xs[k]'(by omega) := by simp [List.getD, show k < xs.length by omega]
      have hg2 : bs.getD k false = bs[k]'(by omega) := by simp [List.getD, show k < bs.length by omega]
      have hs : gainO (fl .f32 g) bs xs (k + 1) = fop (if bs[k]'(by omega) then .add else .sub) .f32 (gainO (fl .f32 g) bs xs k) (fl .f32 (xs[k]'(by omega))) := by rw [← hg, ← hg2]; rfl
      obtain ⟨y, hy1⟩ : ∃ y, xs[k]'(by omega) = y := ⟨_, rfl⟩
      obtain ⟨c, hc⟩ : ∃ c, bs[k]'(by omega) = c := ⟨_, rfl⟩
      rw [hy1, hc] at hs
      rw [hy1] at hc2
      rw [hc] at hc1
      have hk2 : (k : Int) < (n2 : Int) := by omega
      cases c
      · rw [if_neg (by decide)] at hs
        have HS := Lib.hid hs
        clear hs hg hg2 hy1 hc hx hy
        go_wp2
        go_roundw
        case rel => exact ⟨k + 1, _, _, by omega, by go_num, rfl, by rw [fl_fres, HV.out, HS.out], rfl⟩
        case measure => simp [intOf]; omega
      · rw [if_pos rfl] at hs
        have HS := Lib.hid hs
        clear hs hg hg2 hy1 hc hx hy
        go_wp2
        go_roundw
        case rel => exact ⟨k + 1, _, _, by omega, by go_num, rfl, by rw [fl_fres, HV.out, HS.out], rfl⟩
        case measure => simp [intOf]; omega
    · have : k = n := by omega
      subst this
      go_wp2
      go_ret
      exact ⟨_, rfl, HV.out, _, rfl⟩


set_option maxRecDepth 100000 in
set_option maxHeartbeats 1000000 in
theorem spec_l07Gain_c (w : World) (g B B2 : Nat) (A : Option Addr) (n cap : Nat) (bs : List Bool) (hl : bs.length = n) (hn : n ≤ 1048576) (hx : Sl w B A (bs.map Value.bool)) (A2 : Option Addr) (n2 cap2 : Nat) (xs : List Nat) (hl2 : xs.length = n2) (h2 : n ≤ n2) (hn2 : n2 ≤ 1048576) (hy : Sl w B2 A2 (xs.map (Value.float .f32))) :
    Calls Try.prog 75 #[.float .f32 g, .slice A2 n2 cap2, .slice A n cap] w fun e w' => ∃ v, e = .returned (.float .f32 v) ∧ fl .f32 v = gainO (fl .f32 g) bs xs n ∧ ∃ q, w' = w.drewN q := by
  go_enter Try.func75, Try.ntmps75
  go_wp2
  go_loopw [0, 10] (fun o i wr => ∃ k q v : Nat, k ≤ n ∧ i = .int .i64 k ∧ o = .float .f32 v ∧ fl .f32 v = gainO (fl .f32 g) bs xs k ∧ wr = w.drewN q) (fun _ i _ => n - (intOf i).toNat)
  case atStart => exact ⟨0, 0, g, Nat.zero_le _, rfl, rfl, rfl, rfl⟩
  case round =>
    obtain ⟨k, q, v, hk, rfl, rfl, hv, rfl⟩ := hrel
    have HV := Lib.hid hv
    clear hv
    by_cases hlt : k < n
    · obtain ⟨b, off, rfl, hbb, hc1⟩ := hx.get k (by omega)
      obtain ⟨b2, off2, rfl, hbb2, hc2⟩ := hy.get k (by omega)
      have hg : xs.getD k 0 = xs[k]'(by omega) := by simp [List.getD, show k < xs.length by omega]
      have hg2 : bs.getD k false = bs[k]'(by omega) := by simp [List.getD, show k < bs.length by omega]
      have hs : gainO (fl .f32 g) bs xs (k + 1) = fop (if bs[k]'(by omega) then .add else .sub) .f32 (gainO (fl .f32 g) bs xs k) (fl .f32 (xs[k]'(by omega))) := by rw [← hg, ← hg2]; rfl
      obtain ⟨y, hy1⟩ : ∃ y, xs[k]'(by omega) = y := ⟨_, rfl⟩
      obtain ⟨c, hc⟩ : ∃ c, bs[k]'(by omega) = c := ⟨_, rfl⟩
      rw [hy1, hc] at hs
      rw [hy1] at hc2
      rw [hc] at hc1
      have hk2 : (k : Int) < (n2 : Int) := by omega
      cases c
      · rw [if_neg (by decide)] at hs
        have HS := Lib.hid hs
        clear hs hg hg2 hy1 hc hx hy
        go_wp2
        go_roundw
        case rel => exact ⟨k + 1, _, _, by omega, by go_num, rfl, by rw [fl_fres, HV.out, HS.out], rfl⟩
        case measure => simp [intOf]; omega
      · rw [if_pos rfl] at hs
        have HS := Lib.hid hs
        clear hs hg hg2 hy1 hc hx hy
        go_wp2
        go_roundw
        case rel => exact ⟨k + 1, _, _, by omega, by go_num, rfl, by rw [fl_fres, HV.out, HS.out], rfl⟩
        case measure => simp [intOf]; omega
    · have : k = n := by omega
      subst this
      go_wp2
      go_ret
      exact ⟨_, rfl, HV.out, _, rfl⟩

end Go.Proofs.Ytopeidmafalklaa
