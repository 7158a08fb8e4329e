/-
  Contracts: a number in a list of int64.
  Conditions: at most 1048576 numbers.
-/
import Derived.Test.YtlcdcicdlfakgaaH
namespace Go.Proofs.Ytlcdcicdlfakgaa
open Go.RowKit


set_option maxRecDepth 100000 in
set_option maxHeartbeats 400000 in
theorem Index_i64_c (w : World) (B : Nat) (A : Option Addr) (n cap : Nat) (l : List Int) (hl : l.length = n) (hn : n ≤ 1048576) (hx : Sl w B A (l.map (Value.int .i64))) (x : Int) :
    Calls Try.prog 92 #[.slice A n cap, .int .i64 x] w fun e w' => ∃ r : Int, e = .returned (.int .i64 r) ∧ (0 ≤ r ↔ x ∈ l) ∧ w = w' := by
  go_enter Try.func92, Try.ntmps92
  go_wp2
  go_loop [8] (fun i => ∃ k : Nat, k ≤ n ∧ i = .int .i64 k ∧ ∀ j (hj : j < l.length), j < k → l[j] ≠ x) (fun i => n - (intOf i).toNat)
  case atStart => exact ⟨0, Nat.zero_le _, rfl, fun j _ hj => by omega⟩
  case round =>
    obtain ⟨k, hk, rfl, hp⟩ := hrel
    have HP := Lib.hid hp
    clear hp
    by_cases hlt : k < n
    · obtain ⟨b, off, rfl, hbb, hc1⟩ := hx.get k (by omega)
      have hkl : k < l.length := by omega
      obtain ⟨u, hu⟩ : ∃ u, l[k]'hkl = u := ⟨_, rfl⟩
      rw [hu] at hc1
      have HU := Lib.hid hu
      clear hu hx
      by_cases hxu : x = u
      · subst hxu
        have he : (x == x) = true := by simp
        go_wp2
        go_ret
        exact ⟨(k : Int), rfl, ⟨fun _ => by rw [← HU.out]; exact List.getElem_mem _, fun _ => by omega⟩, rfl⟩
      · have he : (x == u) = false := by simpa using hxu
        go_wp2
        go_round
        case rel =>
          refine ⟨k + 1, by omega, by go_num, ?_⟩
          intro j hj hjk
          by_cases hjk2 : j = k
          · subst hjk2
            rw [HU.out]
            exact fun h => hxu h.symm
          · exact HP.out j hj (by omega)
        case measure => simp [intOf]; omega
    · have : k = n := by omega
      subst this
      go_wp2
      go_ret
      refine ⟨-1, rfl, ⟨fun h => by omega, fun h => ?_⟩, rfl⟩
      obtain ⟨j, hj, he⟩ := List.mem_iff_getElem.1 h
      exact absurd he (HP.out j hj (by omega))
set_option maxRecDepth 100000 in
theorem Contains_i64_c (w : World) (B : Nat) (A : Option Addr) (n cap : Nat) (l : List Int) (hl : l.length = n) (hn : n ≤ 1048576) (hx : Sl w B A (l.map (Value.int .i64))) (x : Int) :
    Calls Try.prog 68 #[.slice A n cap, .int .i64 x] w fun e w' => e = .returned (.bool (decide (x ∈ l))) ∧ w = w' := by
  go_enter Try.func68, Try.ntmps68
  go_wp2_with fail
  refine (Index_i64_c _ B A n cap l hl hn hx x).mono ?_
  rintro e w' ⟨r, rfl, hr, rfl⟩
  have HR := Lib.hid hr
  clear hr
  go_wp2
  go_ret
  exact ⟨ret_bool (by rw [decide_eq_decide]; exact HR.out), rfl⟩

end Go.Proofs.Ytlcdcicdlfakgaa
