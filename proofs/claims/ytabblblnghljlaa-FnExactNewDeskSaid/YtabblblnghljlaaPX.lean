/-
  Contracts: words of messages, of the program and of the reference.
  Conditions: words of at most 16 digits, at most 8 rows.
-/
import Derived.Test.YtabblblnghljlaaPW
namespace Go.Proofs.Ytabblblnghljlaa
open Go.RowKit


set_option maxRecDepth 100000 in
theorem impl_weightOf_w (w : World) (x : Int) (h0 : 0 ≤ x) (h1 : x < 65536) : Calls Try.prog 24 #[.int .i64 x] w fun e w' => e = .returned (.int .i64 (wt x)) ∧ w = w' := by
  have hcv : IntKind.u64.wrap x = x := IntWalk.u64_in _ (by omega)
  have hp := wt_bd (m := 16) (Nat.le_refl _) h0 (by omega)
  go_enter Try.func24, Try.ntmps24
  go_wp2_with (go_at_call 32; refine (OnesCount64_w _ _ h0 h1).mono ?_; rintro e w' ⟨rfl, rfl⟩)
  go_ret
  exact ⟨rfl, rfl⟩
set_option maxRecDepth 100000 in
theorem spec_l06Weight_c (w : World) (x : Int) (h0 : 0 ≤ x) (h1 : x < 65536) : Calls Try.prog 20 #[.int .i64 x] w fun e w' => e = .returned (.int .i64 (wt x)) ∧ w = w' := by
  have hp := wt_bd (m := 16) (Nat.le_refl _) h0 (by omega)
  obtain ⟨n, rfl⟩ : ∃ n : Nat, x = n := ⟨x.toNat, by omega⟩
  go_enter Try.func20, Try.ntmps20
  go_wp2
  go_loop [0, 3] (fun y o => ∃ (k : Nat) (d : Int), y = .int .i64 (k : Int) ∧ o = .int .i64 d ∧ k < 65536 ∧ 0 ≤ d ∧ 0 ≤ wt k ∧ d + wt (k : Int) = wt (n : Int)) (fun y _ => (intOf y).toNat)
  case atStart => exact ⟨n, 0, rfl, rfl, by omega, by omega, hp.1, by omega⟩
  case round =>
    obtain ⟨k, d, rfl, rfl, hk, hd0, hk0, hd⟩ := hrel
    by_cases hz : 0 < k
    · have hs := wt_step k hk
      have hk2 := wt_bd (m := 16) (Nat.le_refl _) (x := ((k / 2 : Nat) : Int)) (by omega) (by omega)
      have HS := Lib.hid hs
      have HD := Lib.hid hd
      have hb : d ≤ 16 := by omega
      clear hs hd
      go_wp2
      go_round
      case rel =>
        refine ⟨k / 2, _, by go_num, rfl, by omega, by omega, hk2.1, ?_⟩
        have h2 := HD.out
        rw [HS.out] at h2
        omega
      case measure => simp [intOf]; omega
    · have : k = 0 := by omega
      subst this
      have h0 : wt ((0 : Nat) : Int) = 0 := rfl
      have HD := Lib.hid hd
      clear hd
      go_wp2
      go_ret
      exact ⟨ret_int (by have h2 := HD.out; rw [h0] at h2; omega), rfl⟩


theorem encK_succ (rows : List Int) (msg : Int) (i : Nat) : encK rows msg (i + 1) = if hasD msg i then xorI (encK rows msg i) (rows.getD i 0) else encK rows msg i := rfl

end Go.Proofs.Ytabblblnghljlaa
