/-
  Contracts: coders, struct values of a number and a slice.
  Conditions: slices are read in memory that is there.
-/
import Derived.Test.YtepdjehbgkfjhaaH
import Derived.Test.YtepdjehbgkfjhaaCB
import Derived.Handy
import Derived.Deep.QuietTactic
import Derived.BigQuiet
namespace Go.Proofs.Ytepdjehbgkfjhaa
open Go.RowKit

theorem below_undrew {a w : World} (h : Below a.drew.heap.size a.drew w) : Below a.heap.size a w := ⟨h.os, h.tape, h.output, h.size, h.block⟩
theorem below_undrewN {n : Nat} {a w : World} (h : Below (a.drewN n).heap.size (a.drewN n) w) : Below a.heap.size a w := ⟨h.os, h.tape, h.output, h.size, h.block⟩



/-- what is left of a number when so many are taken -/
def szr (left : Int) (n : Nat) : Int := if left - n < 0 then -1 else left - n
theorem szr_bd {left : Int} (h0 : 0 ≤ left) (h1 : left ≤ 1048576) (n : Nat) : (szr left n < 0 ∧ szr left n = -1) ∨ (0 ≤ szr left n ∧ szr left n ≤ 1048576 ∧ (n : Int) ≤ left) := by
  unfold szr
  split <;> omega


theorem same_ne {xs ys : List Int} {i : Nat} (h1 : i < xs.length) (h2 : i < ys.length) (h : xs[i] ≠ ys[i]) : (xs == ys) = false := by
  rw [beq_eq_false_iff_ne]
  rintro rfl
  exact h rfl
theorem same_eq {xs ys : List Int} (hl : xs.length = ys.length) (h : ∀ i (h1 : i < xs.length) (h2 : i < ys.length), xs[i] = ys[i]) : (xs == ys) = true := by
  rw [beq_iff_eq]
  exact List.ext_getElem hl h
theorem same_len {xs ys : List Int} (h : xs.length ≠ ys.length) : (xs == ys) = false := by
  rw [beq_eq_false_iff_ne]
  rintro rfl
  exact h rfl


set_option maxRecDepth 100000 in
set_option maxHeartbeats 1000000 in
theorem Equal_i64_c (w : World) (B : Nat) (A A2 : Option Addr) (n cap n2 cap2 : Nat) (xs ys : List Int) (hl : xs.length = n) (hl2 : ys.length = n2) (hn : n ≤ 1099511627776) (hn2 : n2 ≤ 1099511627776) (hx : Sl w B A (xs.map (Value.int .i64))) (hy : Sl w B A2 (ys.map (Value.int .i64))) :
    Calls Try.prog 41 #[.slice A n cap, .slice A2 n2 cap2] w fun e w' => e = .returned (.bool (xs == ys)) ∧ ∃ m, w' = w.drewN m := by
  by_cases hne : n = n2
  · subst hne
    have he : ((n : Int) == (n : Int)) = true := by simp
    go_enter Try.func41, Try.ntmps41
    go_wp2
    go_loopw [13] (fun i wr => ∃ k m : Nat, k ≤ n ∧ i = .int .i64 k ∧ (∀ j (h1 : j < xs.length) (h2 : j < ys.length), j < k → xs[j] = ys[j]) ∧ wr = w.drewN m) (fun i _ => n - (intOf i).toNat)
    case atStart => exact ⟨0, 0, Nat.zero_le _, rfl, fun j _ _ hj => by omega, rfl⟩
    case round =>
      obtain ⟨k, m, hk, rfl, hp, rfl⟩ := hrel
      have HP := Lib.hid hp
      clear hp
      by_cases hlt : k < n
      · obtain ⟨b, off, rfl, hbb, hc1⟩ := hx.get k (by omega)
        obtain ⟨b2, off2, rfl, hbb2, hc2⟩ := hy.get k (by omega)
        obtain ⟨x, hxx⟩ : ∃ x, xs[k]'(by omega) = x := ⟨_, rfl⟩
        obtain ⟨y, hyy⟩ : ∃ y, ys[k]'(by omega) = y := ⟨_, rfl⟩
        rw [hxx] at hc1
        rw [hyy] at hc2
        have HX := Lib.hid hxx
        have HY := Lib.hid hyy
        clear hx hy hxx hyy
        by_cases hxy : x = y
        · subst hxy
          have hd : (x == x) = true := by simp
          go_wp2_with fail
          go_quiet (fail)
          go_wp2
          go_roundw
          case rel =>
            refine ⟨k + 1, _, by omega, by go_num, ?_, rfl⟩
            intro j h1 h2 hj
            by_cases hjk : j = k
            · subst hjk
              rw [HX.out, HY.out]
            · exact HP.out j h1 h2 (by omega)
          case measure => simp [intOf]; omega
        · have hd : (x == y) = false := by simpa using hxy
          go_wp2_with fail
          go_quiet (fail)
          go_wp2
          go_ret
          exact ⟨ret_bool (same_ne (i := k) (by omega) (by omega) (by rw [HX.out, HY.out]; exact hxy)).symm, _, World.drewN_drewN _ _ _⟩
      · have : k = n := by omega
        subst this
        go_wp2
        go_ret
        exact ⟨ret_bool (same_eq (by omega) (fun i h1 h2 => HP.out i h1 h2 (by omega))).symm, _, rfl⟩
  · have he : ((n : Int) == (n2 : Int)) = false := by simp; omega
    rw [same_len (by omega)]
    go_enter Try.func41, Try.ntmps41
    go_wp2
    go_ret
    exact ⟨rfl, 0, rfl⟩



def sameCoderB (m : Int) (xs : List Int) (m2 : Int) (ys : List Int) : Bool := (m == m2) && (xs == ys)
end Go.Proofs.Ytepdjehbgkfjhaa
