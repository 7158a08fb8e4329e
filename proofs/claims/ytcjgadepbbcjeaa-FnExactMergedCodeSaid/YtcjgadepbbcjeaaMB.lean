/-
  Contracts: the least tree, of both.
  Conditions: 1 to 1048576 trees, of two cells each (weight; letters, or a set).
-/
import Derived.Test.YtcjgadepbbcjeaaMA
import Derived.Deep.QuietTactic
import Derived.BigQuiet
import Derived.Lib.Hide
namespace Go.Proofs.Ytcjgadepbbcjeaa
open Go.RowKit

/-- the first one with the least weight among so many and one more -/
def leastK (ws : List Int) : Nat → Nat
  | 0 => 0
  | k + 1 => if ws.getD (k + 1) 0 < ws.getD (leastK ws k) 0 then k + 1 else leastK ws k
def leastI (ws : List Int) : Nat := leastK ws (ws.length - 1)
theorem leastK_le (ws : List Int) : ∀ k, leastK ws k ≤ k
  | 0 => Nat.le_refl _
  | k + 1 => by
    have := leastK_le ws k
    unfold leastK
    split <;> omega
theorem leastI_lt {ws : List Int} (h : 1 ≤ ws.length) : leastI ws < ws.length := by
  have := leastK_le ws (ws.length - 1)
  unfold leastI
  omega
/-- the least is not above any, and it is the first of its weight -/
theorem leastK_min (ws : List Int) : ∀ k, (∀ i, i ≤ k → ws.getD (leastK ws k) 0 ≤ ws.getD i 0) ∧ ∀ i, i < leastK ws k → ws.getD (leastK ws k) 0 < ws.getD i 0
  | 0 => ⟨fun i hi => by obtain rfl : i = 0 := by omega
                         exact Int.le_refl _, fun i hi => absurd hi (Nat.not_lt_zero _)⟩
  | k + 1 => by
    obtain ⟨h1, h2⟩ := leastK_min ws k
    have hle := leastK_le ws k
    unfold leastK
    split
    · rename_i h
      refine ⟨fun i hi => ?_, fun i hi => ?_⟩
      · by_cases e : i = k + 1
        · subst e; exact Int.le_refl _
        · have := h1 i (by omega); omega
      · have := h1 i (by omega); omega
    · rename_i h
      refine ⟨fun i hi => ?_, h2⟩
      by_cases e : i = k + 1
      · subst e; omega
      · exact h1 i (by omega)
/-- weights that lie two cells apart -/
def Bn (W : World) (b off : Nat) (ws : List Int) : Prop := ∀ i, i < ws.length → W.cell? ⟨b, off + i * 2, none⟩ = some (.int .i64 (ws.getD i 0))


set_option maxRecDepth 100000 in
set_option maxHeartbeats 1000000 in
theorem spec_l04LeastTree_c (w : World) (b off n cap : Nat) (ws : List Int) (hl : ws.length = n) (h1 : 1 ≤ n) (hn : n ≤ 1048576) (hb : Bn w b off ws) :
    Calls Try.prog 14 #[.slice (some ⟨b, off, none⟩) n cap] w fun e w' => e = .returned (.int .i64 (leastI ws : Int)) ∧ ∃ q, w' = w.drewN q := by
  go_enter Try.func14, Try.ntmps14
  go_wp2
  go_loopw [3, 4] (fun s i wr => ∃ k q : Nat, k + 1 ≤ n ∧ i = .int .i64 ((k + 1 : Nat) : Int) ∧ s = .int .i64 (leastK ws k : Int) ∧ wr = w.drewN q) (fun _ i _ => n - (intOf i).toNat)
  case atStart => exact ⟨0, 0, h1, rfl, rfl, rfl⟩
  case round =>
    obtain ⟨k, q, hk, rfl, rfl, rfl⟩ := hrel
    have hle := leastK_le ws k
    by_cases hlt : k + 1 < n
    · have hc1 := hb (k + 1) (by omega)
      have hc2 := hb (leastK ws k) (by omega)
      have hst : leastK ws (k + 1) = if ws.getD (k + 1) 0 < ws.getD (leastK ws k) 0 then k + 1 else leastK ws k := rfl
      obtain ⟨a, ea⟩ : ∃ a, ws.getD (k + 1) 0 = a := ⟨_, rfl⟩
      obtain ⟨c, ec⟩ : ∃ a, ws.getD (leastK ws k) 0 = a := ⟨_, rfl⟩
      obtain ⟨L, eL⟩ : ∃ a, leastK ws k = a := ⟨_, rfl⟩
      obtain ⟨K, eK⟩ : ∃ a, k + 1 = a := ⟨_, rfl⟩
      rw [ea] at hc1
      rw [ec] at hc2
      rw [ea, ec] at hst
      rw [eL] at hc2 hle hst ⊢
      rw [eK] at hc1 hlt hst ⊢
      have hLn : L < n := by omega
      have hi1 : (0 : Int) ≤ (K : Int) := by omega
      have hi2 : (K : Int) < (n : Int) := by omega
      have hi3 : (0 : Int) ≤ (L : Int) := by omega
      have hi4 : (L : Int) < (n : Int) := by omega
      have HST := Lib.hid hst
      have HK := Lib.hid eK
      clear hst ea ec eL eK hb
      by_cases hac : a < c
      · go_wp2
        go_quiet (fail)
        go_wp2
        go_roundw
        case rel => exact ⟨k + 1, _, by have := HK.out; omega, by have := HK.out; go_num, by rw [HK.out, HST.out, if_pos hac], rfl⟩
        case measure => simp [intOf]; omega
      · go_wp2
        go_quiet (fail)
        go_wp2
        go_roundw
        case rel => exact ⟨k + 1, _, by have := HK.out; omega, by have := HK.out; go_num, by rw [HK.out, HST.out, if_neg (by omega)], rfl⟩
        case measure => simp [intOf]; omega
    · obtain rfl : n = k + 1 := by omega
      go_wp2
      go_ret
      exact ⟨ret_int (by unfold leastI; rw [hl, Nat.add_sub_cancel]), _, rfl⟩

end Go.Proofs.Ytcjgadepbbcjeaa
