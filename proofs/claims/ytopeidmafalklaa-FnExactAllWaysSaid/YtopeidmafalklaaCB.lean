/-
  Contracts: bounds of numbers and of lists of numbers.
  Conditions: slices are read in memory that is there.
-/
import Derived.Test.YtopeidmafalklaaR
namespace Go.Proofs.Ytopeidmafalklaa
open Go.RowKit

/-- a number lies within bounds -/
def inB (n lo hi : Int) : Bool := decide (lo ≤ n) && decide (n ≤ hi)
theorem inB_true {n lo hi : Int} : inB n lo hi = true ↔ lo ≤ n ∧ n ≤ hi := by simp [inB]
theorem inB_false {n lo hi : Int} : inB n lo hi = false ↔ n < lo ∨ hi < n := by
  rw [← Bool.not_eq_true, inB_true]; omega


theorem impl_within_c (w : World) (n lo hi : Int) : Calls Try.prog 63 #[.int .i64 n, .int .i64 lo, .int .i64 hi] w fun e w' => e = .returned (.bool (inB n lo hi)) ∧ w = w' := by
  by_cases h : lo ≤ n
  · go_enter Try.func63, Try.ntmps63
    go_wp2
    go_ret
    exact ⟨ret_bool (by simp [inB, h]), rfl⟩
  · go_enter Try.func63, Try.ntmps63
    go_wp2
    go_ret
    exact ⟨ret_bool (inB_false.2 (.inl (by omega))).symm, rfl⟩


theorem spec_l00In_c (w : World) (n lo hi : Int) : Calls Try.prog 71 #[.int .i64 n, .int .i64 lo, .int .i64 hi] w fun e w' => e = .returned (.bool (inB n lo hi)) ∧ w = w' := by
  by_cases h : lo ≤ n
  · go_enter Try.func71, Try.ntmps71
    go_wp2
    go_ret
    exact ⟨ret_bool (by simp [inB, h]), rfl⟩
  · go_enter Try.func71, Try.ntmps71
    go_wp2
    go_ret
    exact ⟨ret_bool (inB_false.2 (.inl (by omega))).symm, rfl⟩




theorem all_snoc {α : Type} (p : α → Bool) (xs : List α) (k : Nat) (hk : k < xs.length) (h : (xs.take k).all p = true) (h1 : p xs[k] = true) : (xs.take (k + 1)).all p = true := by
  rw [List.take_succ_eq_append_getElem hk, List.all_append, h]
  simp [h1]
theorem all_not {α : Type} (p : α → Bool) (xs : List α) (k : Nat) (hk : k < xs.length) (h1 : p xs[k] = false) : xs.all p = false := by
  rw [← Bool.not_eq_true, List.all_eq_true]
  intro h
  have := h _ (List.getElem_mem hk)
  rw [h1] at this
  cases this

set_option maxRecDepth 100000 in
set_option maxHeartbeats 400000 in
theorem impl_areWithin_c (w : World) (B : Nat) (A : Option Addr) (n cap : Nat) (xs : List Int) (hl : xs.length = n) (hn : n ≤ 1099511627776) (hx : Sl w B A (xs.map (Value.int .i64))) (lo hi : Int) :
    Calls Try.prog 64 #[.slice A n cap, .int .i64 lo, .int .i64 hi] w fun e w' => e = .returned (.bool (xs.all fun x => inB x lo hi)) ∧ ∃ m, w' = w.drewN m := by
  go_enter Try.func64, Try.ntmps64
  go_wp2
  go_loopw [11] (fun i wr => ∃ k m : Nat, k ≤ n ∧ i = .int .i64 k ∧ (xs.take k).all (fun x => inB x lo hi) = true ∧ wr = w.drewN m) (fun i _ => n - (intOf i).toNat)
  case atStart => exact ⟨0, 0, Nat.zero_le _, rfl, rfl, rfl⟩
  case round =>
    obtain ⟨k, m, hk, rfl, hp, rfl⟩ := hrel
    have HP := Lib.hid hp
    clear hp
    by_cases hlt : k < n
    · obtain ⟨b, off, rfl, hbb, hc1⟩ := hx.get k (by omega)
      clear hx
      cases hf : inB (xs[k]'(by omega)) lo hi
      · have HF := Lib.hid hf
        clear hf
        go_wp2_with (go_at_call 63; refine (impl_within_c _ _ _ _).mono ?_; rintro e w' ⟨rfl, rfl⟩; rw [HF.out])
        go_ret
        exact ⟨ret_bool (all_not (fun x => inB x lo hi) xs k (by omega) HF.out).symm, _, rfl⟩
      · have HF := Lib.hid hf
        clear hf
        go_wp2_with (go_at_call 63; refine (impl_within_c _ _ _ _).mono ?_; rintro e w' ⟨rfl, rfl⟩; rw [HF.out])
        go_roundw
        case rel => exact ⟨k+1, _, by omega, by go_num, all_snoc (fun x => inB x lo hi) xs k (by omega) HP.out HF.out, rfl⟩
        case measure => simp [intOf]; omega
    · have : k = n := by omega
      subst this
      go_wp2
      go_ret
      exact ⟨ret_bool (by rw [take_all hl] at HP; exact HP.out.symm), _, rfl⟩



end Go.Proofs.Ytopeidmafalklaa
