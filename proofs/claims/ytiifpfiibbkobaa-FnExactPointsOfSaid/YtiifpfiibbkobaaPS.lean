/-
  Contracts of the laws' helpers for points, and points of bits as lists of pairs.
  Conditions: at most 80 points.
-/
import Derived.Test.YtiifpfiibbkobaaPQ
import Derived.Laws.ComplexArith
import Derived.Deep.QuietTactic
import Derived.BigQuiet
namespace Go.Proofs.Ytiifpfiibbkobaa
open Go.RowKit

def cB (p : Bool × Bool) : Value := .complex .f32 (sgB p.1) (sgB p.2)
def ptB (bs : List Bool) (x : Nat) : Bool × Bool := (bs.getD (2 * x) false, bs.getD (2 * x + 1) false)
def ptsB (bs : List Bool) : List (Bool × Bool) := if ptsOk bs then (List.range (bs.length / 2)).map (ptB bs) else []
theorem pts_same (bs : List Bool) : (ptsL bs).map cV = (ptsB bs).map cB := by
  unfold ptsL ptsB ptK
  split
  · rw [List.map_map, List.map_map]
    rfl
  · rfl
theorem ptsB_len (bs : List Bool) : (ptsB bs).length ≤ 80 := by
  unfold ptsB
  split
  · rename_i h
    unfold ptsOk at h
    simp only [Bool.and_eq_true, decide_eq_true_eq] at h
    simp
    omega
  · simp

theorem spec_PointsOf_c (w : World) (A : Option Addr) (n cap : Nat) (bs : List Bool) (hl : bs.length = n) (hn : n ≤ 1048576) (hx : Sl w w.heap.size A (bs.map Value.bool)) :
    Calls Try.prog 4 #[.slice A n cap] w fun e w' => ∃ v, e = .returned (.tuple #[v, .bool (ptsOk bs)]) ∧ Ow w' w.heap.size 32 v ((ptsB bs).map cB) ∧ Below w.heap.size w w' := by
  refine (spec_PointsOf_c0 w A n cap bs hl hn hx).mono ?_
  rintro e w' ⟨v, h1, h2, h3⟩
  exact ⟨v, h1, by rw [← pts_same]; exact h2, h3⟩
theorem impl_PointsOf_c (w : World) (A : Option Addr) (n cap : Nat) (bs : List Bool) (hl : bs.length = n) (hn : n ≤ 1048576) (hx : Sl w w.heap.size A (bs.map Value.bool)) :
    Calls Try.prog 6 #[.slice A n cap] w fun e w' => ∃ v, e = .returned (.tuple #[v, .bool (ptsOk bs)]) ∧ Ow w' w.heap.size 32 v ((ptsB bs).map cB) ∧ Below w.heap.size w w' := by
  refine (impl_PointsOf_c0 w A n cap bs hl hn hx).mono ?_
  rintro e w' ⟨v, h1, h2, h3⟩
  exact ⟨v, h1, by rw [← pts_same]; exact h2, h3⟩

def nar (k : Int) : Nat := (floatToFloatBits .f64 (floatOfInt .f64 k) .f32).getD 0
def mkC (k : Int) : Value := .complex .f32 (nar k) 1065353216
theorem nar_all : ∀ q < 91, floatToFloatBits .f64 (floatOfInt .f64 ((q : Nat) : Int)) .f32 = some (nar ((q : Nat) : Int)) ∧ nanB .f32 (nar ((q : Nat) : Int)) = false := by decide +kernel
theorem nar_self {k : Int} (h0 : 0 ≤ k) (h1 : k ≤ 90) : FloatKind.f32.format.order (nar k) (nar k) = some .eq := by
  obtain ⟨q, rfl⟩ : ∃ q : Nat, k = q := ⟨k.toNat, by omega⟩
  exact order_self .f32 _ (nar_all q (by omega)).2
theorem one32 : floatToFloatBits .f64 4607182418800017408 .f32 = some 1065353216 := by decide +kernel
theorem conv_mk (W : World) {k : Int} (h0 : 0 ≤ k) (h1 : k ≤ 90) : (convert 42 32 (.complex .f64 (floatOfInt .f64 k) 4607182418800017408)).run Try.prog W = .ok (.complex .f32 (nar k) 1065353216) W := by
  obtain ⟨q, rfl⟩ : ∃ q : Nat, k = q := ⟨k.toNat, by omega⟩
  refine run_convert_complex W 42 32 .f64 .f32 _ _ _ _ (by rw [Try.underlying42]; rfl) Try.underlying32 ?_
  unfold cConvBits
  rw [(nar_all q (by omega)).1, one32]
  rfl
def sgW (b : Bool) : Nat := if b then 4607182418800017408 else 13830554455654793216
theorem sg_wide (b : Bool) : floatToFloatBits .f32 (sgB b) .f64 = some (sgW b) := by cases b <;> decide +kernel
theorem conv_sg (W : World) (a b : Bool) : (convert 32 42 (.complex .f32 (sgB a) (sgB b))).run Try.prog W = .ok (.complex .f64 (sgW a) (sgW b)) W := by
  refine run_convert_complex W 32 42 .f32 .f64 _ _ _ _ (by rw [Try.underlying32]; rfl) Try.underlying42 ?_
  unfold cConvBits
  rw [sg_wide, sg_wide]
  rfl

set_option maxRecDepth 100000 in
theorem sameComplex_t (w : World) (x y : Nat) : Calls Try.prog 15 #[.complex .f64 x y, .complex .f64 x y] w fun e w' => e = .returned (.bool true) ∧ ∃ n, w' = w.drewN n := by
  go_enter Try.func15, Try.ntmps15
  go_wp2_with fail
  refine (sameFloat_t _ x x rfl).mono ?_
  rintro e w' ⟨rfl, q, rfl⟩
  go_wp2_with fail
  refine (sameFloat_t _ y y rfl).mono ?_
  rintro e w' ⟨rfl, q2, rfl⟩
  go_wp2
  go_ret
  exact ⟨rfl, q + q2, by first | rfl | rw [World.drewN_drewN]⟩
theorem sameComplex_at {w : World} {q m x y : Nat} : Calls Try.prog 15 #[.complex .f64 x y, .complex .f64 x y] (w.drewN (q + m)) fun e w' => e = .returned (.bool true) ∧ ∃ k, w' = w.drewN (q + k) := by
  refine (sameComplex_t (w.drewN (q + m)) x y).mono ?_
  rintro e w' ⟨rfl, k, rfl⟩
  exact ⟨rfl, m + k, by rw [World.drewN_drewN, Nat.add_assoc]⟩


set_option maxRecDepth 100000 in
set_option maxHeartbeats 1000000 in
theorem eqComplex64S_t (w : World) (A B : Option Addr) (n cap cap' b1 b2 : Nat) (xs : List (Bool × Bool)) (hl : xs.length = n) (hn : n ≤ 1099511627776) (hx : Sl w b1 A (xs.map cB)) (hy : Sl w b2 B (xs.map cB)) :
    Calls Try.prog 7 #[.slice A n cap, .slice B n cap'] w fun e w' => e = .returned (.bool true) ∧ ∃ n, w' = w.drewN n := by
  go_enter Try.func7, Try.ntmps7
  go_wp2
  go_loopw [5] (fun i wr => ∃ k m : Nat, k ≤ n ∧ i = .int .i64 k ∧ wr = w.drewN m) (fun i _ => n - (intOf i).toNat)
  case atStart => exact ⟨0, 0, Nat.zero_le _, rfl, rfl⟩
  case round =>
    obtain ⟨k, m, hk, rfl, rfl⟩ := hrel
    by_cases hlt : k < n
    · obtain ⟨b, off, rfl, hbb, hc1⟩ := hx.get k (by omega)
      obtain ⟨b', off', rfl, hbb', hc2⟩ := hy.get k (by omega)
      obtain ⟨⟨p, q⟩, hpq⟩ : ∃ z, xs[k]'(by omega) = z := ⟨_, rfl⟩
      rw [hpq] at hc1 hc2
      simp only [cB] at hc1 hc2
      have hcv := fun W : World => conv_sg W p q
      clear hx hy hpq
      go_wp2_with fail
      go_quiet ((go_at_call 15; exact sameComplex_at))
      go_wp2
      go_roundw
      case rel => exact ⟨k+1, _, by omega, by go_num, rfl⟩
      case measure => simp [intOf]; omega
    · have : k = n := by omega
      subst this
      go_wp2
      go_ret
      exact ⟨rfl, _, rfl⟩


set_option maxHeartbeats 400000 in
theorem markComplex64S_c (w : World) (base : Nat) (A : Option Addr) (n cap : Nat) (xs : List Value) (hn : n ≤ 80) (k : Int) (h0 : 0 ≤ k) (hk : k ≤ 10) (ho : w.ownsRow base 32 1 (.slice A n cap) n xs) :
    Calls Try.prog 10 #[.slice A n cap, .int .i64 k] w fun e w' => e = .returned (.int .i64 (k + n)) ∧ w'.ownsRow base 32 1 (.slice A n cap) n (marks mkC k n) ∧ w.grownBy w' (Value.slice A n cap).ownBlock := by
  have hl : xs.length = n := by simpa using ho.1
  go_enter Try.func10, Try.ntmps10
  go_wp2
  go_loopw [1, 5] (fun q i wr => ∃ j : Nat, j ≤ n ∧ i = .int .i64 j ∧ q = .int .i64 (k + j) ∧ wr.ownsRow base 32 1 (.slice A n cap) n (marks mkC k j ++ xs.drop j) ∧ w.grownBy wr (Value.slice A n cap).ownBlock) (fun _ i _ => n - (intOf i).toNat)
  case atStart => exact ⟨0, Nat.zero_le _, rfl, by simp, by simpa [marks] using ho, World.grownBy.refl _ _⟩
  case round =>
    clear ho
    obtain ⟨j, hj, rfl, rfl, ho, hg⟩ := hrel
    by_cases hlt : j < n
    · obtain ⟨g, cap', hv, hbg, hgs⟩ := ho.form (by omega)
      injection hv with hv
      subst hv
      have hc := ho.cellAt j (by omega)
      have hf := ho.frozenAt j
      have hs := ho.stored j (mkC (k + (j : Int)))
      have hcell : ∃ u, wr.cell? ⟨g, j, none⟩ = some u := by
        rw [hc, List.getElem?_append_right (by rw [marks_length]; omega), marks_length, Nat.sub_self, List.getElem?_drop]
        exact ⟨_, List.getElem?_eq_getElem (by omega)⟩
      obtain ⟨u, hcu⟩ := hcell
      have HS := Lib.hid hs
      have hcv := fun W : World => conv_mk W (show 0 ≤ k + (j : Int) by omega) (show k + (j : Int) ≤ 90 by omega)
      have hmc : mkC (k + (j : Int)) = .complex .f32 (nar (k + (j : Int))) 1065353216 := rfl
      rw [hmc] at HS
      clear hc hs ho hmc
      go_wp2
      try go_quiet (fail)
      go_wp2
      go_roundw
      case rel =>
        refine ⟨j + 1, by omega, by go_num, by go_num, ?_, only_setCell (p := ⟨g, j, none⟩) hg rfl _⟩
        have h1 := HS.out.1
        have h2 := marks_set mkC k xs n j hl hlt
        rw [show mkC (k + (j : Int)) = .complex .f32 (nar (k + (j : Int))) 1065353216 from rfl] at h2
        rw [h2] at h1
        exact h1
      case measure => simp [intOf]; omega
    · have : j = n := by omega
      subst this
      go_wp2
      go_ret
      exact ⟨rfl, by simpa [List.drop_of_length_le (Nat.le_of_eq hl)] using ho, hg⟩


set_option maxHeartbeats 400000 in
theorem heldComplex64S_c (w : World) (b1 : Nat) (A : Option Addr) (n cap : Nat) (hn : n ≤ 80) (k : Int) (h0 : 0 ≤ k) (hk : k ≤ 10) (hx : Sl w b1 A (marks mkC k n)) :
    Calls Try.prog 11 #[.slice A n cap, .int .i64 k] w fun e w' => e = .returned (.int .i64 (k + n)) ∧ ∃ m, w' = w.drewN m := by
  go_enter Try.func11, Try.ntmps11
  go_wp2
  go_loopw [1, 5] (fun q i wr => ∃ j m : Nat, j ≤ n ∧ i = .int .i64 j ∧ q = .int .i64 (k + j) ∧ wr = w.drewN m) (fun _ i _ => n - (intOf i).toNat)
  case atStart => exact ⟨0, 0, Nat.zero_le _, rfl, by simp, rfl⟩
  case round =>
    obtain ⟨j, m, hj, rfl, rfl, rfl⟩ := hrel
    by_cases hlt : j < n
    · obtain ⟨b, off, rfl, hbb, hc⟩ := hx.at_ (k := j) (by rw [marks_length]; exact hlt)
      have hc1 := hc j _ (marks_get _ k n j hlt)
      clear hc hx
      have hcv := fun W : World => conv_mk W (show 0 ≤ k + (j : Int) by omega) (show k + (j : Int) ≤ 90 by omega)
      have hmc : mkC (k + (j : Int)) = .complex .f32 (nar (k + (j : Int))) 1065353216 := rfl
      rw [hmc] at hc1
      have ho := nar_self (show 0 ≤ k + (j : Int) by omega) (show k + (j : Int) ≤ 90 by omega)
      have ho1 : FloatKind.f32.format.order 1065353216 1065353216 = some .eq := by decide
      clear hmc
      go_wp2
      try go_quiet (fail)
      go_wp2
      go_roundw
      case rel => exact ⟨j + 1, _, by omega, by go_num, by go_num, rfl⟩
      case measure => simp [intOf]; omega
    · have : j = n := by omega
      subst this
      go_wp2
      go_ret
      exact ⟨rfl, _, rfl⟩


end Go.Proofs.Ytiifpfiibbkobaa
