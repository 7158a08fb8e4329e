/-
  Contracts of the laws on codes: what they choose by bytes, and ones of a number.
  Conditions: as each theorem says.
-/
import Derived.Test.YtldnhflgpbcmeaaPX
namespace Go.Proofs.Ytldnhflgpbcmeaa
open Go.RowKit


set_option maxRecDepth 100000 in
theorem r8Long_c (w : World) (A A2 : Option Addr) (n cap n2 cap2 : Nat) (bb : Bool) (hb : bb = (decide (48 < n) || decide (48 < n2))) (hn : n ≤ maxLen) (hn2 : n2 ≤ maxLen) :
    Calls Try.prog 5 #[.slice A n cap, .slice A2 n2 cap2] w fun e w' => e = .returned (.bool bb) ∧ w = w' := by
  unfold maxLen at hn hn2
  by_cases h1 : 48 < n
  · have e : bb = true := by rw [hb]; simp [h1]
    rw [e]
    clear e hb
    go_enter Try.func5, Try.ntmps5
    go_wp2
    go_ret
    exact ⟨rfl, rfl⟩
  · by_cases h2 : 48 < n2
    · have e : bb = true := by rw [hb]; simp [h2]
      rw [e]
      clear e hb
      go_enter Try.func5, Try.ntmps5
      go_wp2
      go_ret
      exact ⟨ret_bool (by simp; omega), rfl⟩
    · have e : bb = false := by rw [hb]; simp [h1, h2]
      rw [e]
      clear e hb
      go_enter Try.func5, Try.ntmps5
      go_wp2
      go_ret
      exact ⟨ret_bool (by simp; omega), rfl⟩


/-- a number from 0 to n - 1, by a byte -/
def r8V (xs : List Int) (k n : Int) : Int := if n ≤ 1 ∨ k ≥ xs.length then 0 else xs.getD k.toNat 0 % n
theorem r8V_bd (xs : List Int) (k n : Int) (h1 : 1 ≤ n) : 0 ≤ r8V xs k n ∧ r8V xs k n < n := by
  unfold r8V
  split
  · omega
  · exact ⟨Int.emod_nonneg _ (by omega), Int.emod_lt_of_pos _ (by omega)⟩
set_option maxRecDepth 100000 in
set_option maxHeartbeats 1000000 in
theorem r8At_c (w : World) (B : Nat) (A : Option Addr) (n cap : Nat) (xs : List Int) (hl : xs.length = n) (hb : ∀ x ∈ xs, 0 ≤ x ∧ x ≤ 255) (hx : Sl w B A (xs.map (Value.int .u8))) (i m : Int) (h0 : 0 ≤ i) (h1 : i ≤ 1048576) (h3 : m ≤ 1048576) :
    Calls Try.prog 6 #[.slice A n cap, .int .i64 i, .int .i64 m] w fun e w' => e = .returned (.int .i64 (r8V xs i m)) ∧ w = w' := by
  by_cases hm : m ≤ 1
  · have e : r8V xs i m = 0 := by unfold r8V; rw [if_pos (.inl hm)]
    rw [e]
    clear e
    go_enter Try.func6, Try.ntmps6
    go_wp2
    go_ret
    exact ⟨rfl, rfl⟩
  · by_cases hlt : i < (n : Int)
    · obtain ⟨k, rfl⟩ : ∃ k : Nat, i = k := ⟨i.toNat, by omega⟩
      have hk : k < n := by omega
      obtain ⟨b, off, rfl, hbb, hc1⟩ := hx.get k (by simpa [hl] using hk)
      have hg := hb _ (List.getElem_mem (show k < xs.length by omega))
      have e : r8V xs k m = xs[k]'(by omega) % m := by
        unfold r8V
        rw [if_neg (by omega)]
        simp [List.getD, show k < xs.length by omega]
      rw [e]
      obtain ⟨x, ex⟩ : ∃ x, xs[k]'(by omega) = x := ⟨_, rfl⟩
      rw [ex] at hc1 hg ⊢
      have htm : x.tmod m = x % m := Int.tmod_eq_emod_of_nonneg hg.1
      have hPz : (m == 0) = false := by simp; omega
      have hPd : decide (m = 0) = false := by simp; omega
      have hr0 : 0 ≤ x % m := Int.emod_nonneg _ (by omega)
      have hr1 : x % m < m := Int.emod_lt_of_pos _ (by omega)
      obtain ⟨hg1, hg2⟩ := hg
      clear e ex hx hb
      go_enter Try.func6, Try.ntmps6
      go_wp2
      go_ret
      exact ⟨rfl, rfl⟩
    · have e : r8V xs i m = 0 := by
        unfold r8V
        rw [if_pos (.inr (by omega))]
      rw [e]
      clear e hx hb
      go_enter Try.func6, Try.ntmps6
      go_wp2
      go_ret
      exact ⟨rfl, rfl⟩


set_option maxRecDepth 100000 in
theorem r8Ones_c (w : World) (x : Int) (h0 : 0 ≤ x) (h1 : x < 65536) : Calls Try.prog 17 #[.int .i64 x] w fun e w' => e = .returned (.int .i64 (wt x)) ∧ w = w' := by
  have hwx := wt_bd (m := 16) (Nat.le_refl _) h0 (by omega)
  go_enter Try.func17, Try.ntmps17
  go_wp2
  go_loop [0, 3] (fun y o => ∃ (k : Nat) (d : Int), y = .int .i64 (k : Int) ∧ o = .int .i64 d ∧ k < 65536 ∧ 0 ≤ d ∧ d + wt (k : Int) = wt x) (fun y _ => (intOf y).toNat)
  case atStart => exact ⟨x.toNat, 0, by rw [show ((x.toNat : Nat) : Int) = x by omega], rfl, by omega, Int.le_refl _, by rw [show ((x.toNat : Nat) : Int) = x by omega]; omega⟩
  case round =>
    obtain ⟨k, d, rfl, rfl, hk, hd0, hd⟩ := hrel
    by_cases hz : 0 < k
    · have hs := wt_step k hk
      have hk2 := wt_bd (m := 16) (Nat.le_refl _) (x := ((k / 2 : Nat) : Int)) (by omega) (by omega)
      have HS := Lib.hid hs
      have HD := Lib.hid hd
      have hb : d ≤ 16 := by omega
      clear hs hd
      go_wp2
      go_round
      case rel =>
        refine ⟨k / 2, _, by go_num, rfl, by omega, by omega, ?_⟩
        have h2 := HD.out
        rw [HS.out] at h2
        omega
      case measure => simp [intOf]; omega
    · have : k = 0 := by omega
      subst this
      have hz0 : wt ((0 : Nat) : Int) = 0 := rfl
      have HD := Lib.hid hd
      clear hd
      go_wp2
      go_ret
      exact ⟨ret_int (by have h2 := HD.out; rw [hz0] at h2; omega), rfl⟩

end Go.Proofs.Ytldnhflgpbcmeaa
