/-
  Contracts: greatest digits, and the other code.
  Conditions: words of at most 16 digits; valid codes.
-/
import Derived.Test.YtldnhflgpbcmeaaEE
import Derived.Test.YtldnhflgpbcmeaaNZ
namespace Go.Proofs.Ytldnhflgpbcmeaa
open Go.RowKit

theorem len_log : ∀ (f x : Nat), x ≠ 0 → x < 2 ^ f → Lib.bitLenAux f x = x.log2 + 1
  | 0, x, h0, h => by simp at h; omega
  | f + 1, x, h0, h => by
    rw [Lib.bitLenAux, if_neg h0]
    rw [Nat.pow_succ] at h
    by_cases h1 : x / 2 = 0
    · have : x = 1 := by omega
      subst this
      cases f <;> rfl
    · rw [len_log f (x / 2) h1 (by omega)]
      conv => rhs; rw [Nat.log2_def]
      rw [if_pos (by omega)]
      omega
theorem log_lt {x M : Nat} (h0 : x ≠ 0) (h : x < 2 ^ M) : x.log2 < M := (Nat.log2_lt h0).2 h


set_option maxRecDepth 100000 in
theorem impl_topOf_c (w : World) (x : Nat) (h0 : x ≠ 0) (h : x < 65536) : Calls Try.prog 57 #[.int .i64 (x : Int)] w fun e w' => e = .returned (.int .i64 (x.log2 : Int)) ∧ w = w' := by
  have hcv : IntKind.u64.wrap (x : Int) = (x : Int) := IntWalk.u64_in _ (by omega)
  have hl := log_lt (M := 16) h0 h
  have hb : Lib.bitLen ((x : Int).toNat) = x.log2 + 1 := by
    rw [Int.toNat_natCast]
    exact len_log 64 x h0 (by omega)
  have HC := Lib.hid (Try.bits_Len64 (x : Int) w (by omega) (by omega))
  rw [hb] at HC
  obtain ⟨l, hl2⟩ : ∃ l, x.log2 = l := ⟨_, rfl⟩
  rw [hl2] at HC hl ⊢
  clear hb
  go_enter Try.func57, Try.ntmps57
  go_wp2_with (go_at_call 63; refine HC.out.mono ?_; rintro e w' ⟨rfl, rfl⟩)
  go_ret
  exact ⟨ret_int (by omega), rfl⟩

end Go.Proofs.Ytldnhflgpbcmeaa
