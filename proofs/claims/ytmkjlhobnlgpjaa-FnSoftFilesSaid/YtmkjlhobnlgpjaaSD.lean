/-
  Contracts: struct values that are saved: copies, sizes, comparisons.
  Conditions: lengths at most 1048576 where they are copied.
-/
import Derived.Test.YtmkjlhobnlgpjaaSC
import Derived.Deep.RegionHeld3
namespace Go.Proofs.Ytmkjlhobnlgpjaa
open Go.RowKit


theorem szFloat32S_c (w : World) (A : Option Addr) (n cap : Nat) (left : Int) (h0 : 0 ≤ left) (h1 : left ≤ 1048576) (hn : n ≤ 9223372036854775807) :
    Calls Try.prog 40 #[.slice A n cap, .int .i64 left] w fun e w' => e = .returned (.int .i64 (szr left n)) ∧ w = w' := by
  by_cases h : left - n < 0
  · have e1 : szr left n = -1 := by unfold szr; rw [if_pos h]
    rw [e1]
    clear e1
    go_enter Try.func40, Try.ntmps40
    go_wp2
    go_ret
    exact ⟨rfl, rfl⟩
  · have e1 : szr left n = left - n := by unfold szr; rw [if_neg h]
    rw [e1]
    clear e1
    go_enter Try.func40, Try.ntmps40
    go_wp2
    go_ret
    exact ⟨rfl, rfl⟩










end Go.Proofs.Ytmkjlhobnlgpjaa
