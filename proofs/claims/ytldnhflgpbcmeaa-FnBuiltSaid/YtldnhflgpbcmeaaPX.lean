/-
  Contracts: words of messages, of the program and of the reference.
  Conditions: words of at most 16 digits, at most 8 rows.
-/
import Derived.Test.YtldnhflgpbcmeaaPW
namespace Go.Proofs.Ytldnhflgpbcmeaa
open Go.RowKit


set_option maxRecDepth 100000 in
theorem impl_weightOf_w (w : World) (x : Int) (h0 : 0 ≤ x) (h1 : x < 65536) : Calls Try.prog 31 #[.int .i64 x] w fun e w' => e = .returned (.int .i64 (wt x)) ∧ w = w' := by
  have hcv : IntKind.u64.wrap x = x := IntWalk.u64_in _ (by omega)
  have hp := wt_bd (m := 16) (Nat.le_refl _) h0 (by omega)
  go_enter Try.func31, Try.ntmps31
  go_wp2_with (go_at_call 50; refine (OnesCount64_w _ _ h0 h1).mono ?_; rintro e w' ⟨rfl, rfl⟩)
  go_ret
  exact ⟨rfl, rfl⟩

theorem encK_succ (rows : List Int) (msg : Int) (i : Nat) : encK rows msg (i + 1) = if hasD msg i then xorI (encK rows msg i) (rows.getD i 0) else encK rows msg i := rfl
set_option maxRecDepth 100000 in
set_option maxHeartbeats 1000000 in
theorem impl_encode_c (w : World) (m : Int) (A : Option Addr) (n cap : Nat) (xs : List Int) (hl : xs.length = n) (hn : n ≤ 8) (hx : Sl w w.heap.size A (xs.map (Value.int .i64))) (msg : Int) :
    Calls Try.prog 45 #[.agg #[.int .i64 m, .slice A n cap], .int .i64 msg] w fun e w' => e = .returned (.int .i64 (encL xs msg)) ∧ Below w.heap.size w w' := by
  go_enter Try.func45, Try.ntmps45
  go_wp2
  obtain ⟨w1, ew⟩ : ∃ q : World, q = w.alloc (.cells #[.int .i64 m, .slice A n cap] 27) := ⟨_, rfl⟩
  rw [← ew]
  have hB : Below w.heap.size w w1 := by rw [ew]; exact (Below.refl _ _).alloc (Nat.le_refl _) _
  have hx1 := hx.below hB
  clear ew hx
  go_loop [5, 11] (fun o i => ∃ k : Nat, k ≤ n ∧ i = .int .i64 k ∧ o = .int .i64 (encK xs msg k)) (fun _ i => n - (intOf i).toNat)
  case atStart => exact ⟨0, Nat.zero_le _, rfl, rfl⟩
  case round =>
    obtain ⟨k, hk, rfl, rfl⟩ := hrel
    by_cases hlt : k < n
    · obtain ⟨b, off, rfl, hbb, hc1⟩ := hx1.get k (by omega)
      have hs := encK_succ xs msg k
      have hg : xs.getD k 0 = xs[k]'(by omega) := by simp [List.getD, show k < xs.length by omega]
      rw [hg] at hs
      obtain ⟨y, hy⟩ : ∃ y, xs[k]'(by omega) = y := ⟨_, rfl⟩
      rw [hy] at hs hc1
      cases hb : hasD msg k
      · rw [hb] at hs
        have HS := Lib.hid hs
        have HB := Lib.hid hb
        clear hs hb hy hg hx1
        go_wp2_with (go_at_call 32; refine (impl_hasDigit_c _ _ _ (by omega) (by omega)).mono ?_; rintro e w' ⟨rfl, rfl⟩; rw [HB.out])
        go_round
        case rel => exact ⟨k + 1, by omega, by go_num, by rw [HS.out]; rfl⟩
        case measure => simp [intOf]; omega
      · rw [hb] at hs
        have HS := Lib.hid hs
        have HB := Lib.hid hb
        clear hs hb hy hg hx1
        go_wp2_with (go_at_call 32; refine (impl_hasDigit_c _ _ _ (by omega) (by omega)).mono ?_; rintro e w' ⟨rfl, rfl⟩; rw [HB.out])
        go_round
        case rel => exact ⟨k + 1, by omega, by go_num, by rw [HS.out]; rfl⟩
        case measure => simp [intOf]; omega
    · have : k = n := by omega
      subst this
      go_wp2
      go_ret
      exact ⟨ret_int (by unfold encL; rw [hl]), hB⟩


end Go.Proofs.Ytldnhflgpbcmeaa
