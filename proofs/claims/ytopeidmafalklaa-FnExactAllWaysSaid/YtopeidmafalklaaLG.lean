/-
  Plain: numbers of double precision, doubled and halved; how they stand to one another.
  Conditions: none.
-/
import Derived.Test.YtopeidmafalklaaF
namespace Go.Proofs.Ytopeidmafalklaa
open Ieee Go.RowKit

/-- a positive normal number of double precision, by its word -/
def Norm (x : Nat) : Prop := 4503599627370496 ≤ x ∧ x < 9218868437227405312
theorem read_norm {x : Nat} (h : Norm x) : double.read x = .number false (4503599627370496 + x % 4503599627370496) (-1074 + ((x / 4503599627370496 - 1 : Nat) : Int)) := by
  obtain ⟨h1, h2⟩ := h
  have e1 : x / double.signWeight % 2 = 0 := by rw [sw64]; omega
  have e2 : x % double.signWeight = x := by rw [sw64]; omega
  unfold Format.read
  simp only [e1, e2, bi64, ir64]
  rw [if_neg (by omega), if_pos (by omega)]
  rfl
theorem log_m {r : Nat} (h : r < 4503599627370496) : (4503599627370496 + r).log2 = 52 := by
  rw [Nat.log2_eq_iff (by omega)]
  omega
theorem cut_exact (neg : Bool) (m k : Nat) (hm : m ≠ 0) : Toward.even.cut neg (m * 2 ^ k) k = m := by
  have hl : k ≤ (m * 2 ^ k).log2 := by
    rw [Nat.le_log2 (by have := Nat.pos_of_ne_zero hm; have := Nat.pow_pos (n := k) (show 0 < 2 by decide); exact Nat.ne_of_gt (Nat.mul_pos (by omega) this))]
    exact Nat.le_mul_of_pos_left _ (Nat.pos_of_ne_zero hm)
  unfold Toward.cut
  have e1 : min k ((m * 2 ^ k).log2 + 2) = k := by omega
  have hp : 0 < 2 ^ k := Nat.pow_pos (by decide)
  simp only [e1, Nat.one_shiftLeft]
  rw [Nat.mul_div_cancel _ hp, Nat.mul_mod_left]
  have e2 : (decide (2 ^ k < 2 * 0) || (2 ^ k == 2 * 0 && m % 2 == 1)) = false := by
    have : ¬ 2 ^ k < 2 * 0 := by omega
    have h3 : (2 ^ k == 2 * 0) = false := by
      rw [beq_eq_false_iff_ne]
      omega
    rw [decide_eq_false this, h3]
    rfl
  rw [e2]
  rfl
theorem log2_mul_pow (m k : Nat) (hm : m ≠ 0) : (m * 2 ^ k).log2 = m.log2 + k := by
  have hp : 0 < 2 ^ k := Nat.pow_pos (by decide)
  rw [Nat.log2_eq_iff (Nat.ne_of_gt (Nat.mul_pos (Nat.pos_of_ne_zero hm) hp))]
  have h1 := Nat.log2_self_le hm
  have h2 := Nat.lt_log2_self (n := m)
  rw [Nat.pow_add, show m.log2 + k + 1 = (m.log2 + 1) + k by omega, Nat.pow_add]
  exact ⟨Nat.mul_le_mul_right _ h1, Nat.mul_lt_mul_of_pos_right h2 hp⟩
/-- a significand, more digits of it, rounds to itself -/
theorem nearest_at {M k : Nat} (hm : M ≠ 0) (hl : M.log2 = 52) {i p : Int} (hi : -1074 ≤ i) (hp : p = i - (k : Int)) :
    double.nearest false (M * 2 ^ k) p = min ((i + 1074).toNat * 4503599627370496 + M) 9218868437227405312 := by
  have h0 : M * 2 ^ k ≠ 0 := Nat.ne_of_gt (Nat.mul_pos (Nat.pos_of_ne_zero hm) (Nat.pow_pos (by decide)))
  have hl2 : (M * 2 ^ k).log2 = 52 + k := by rw [log2_mul_pow _ _ hm, hl]
  have hc := cut_exact false M k hm
  have hw : ∀ r, double.word false r = r := fun r => rfl
  obtain ⟨N, hN⟩ : ∃ N, M * 2 ^ k = N := ⟨_, rfl⟩
  rw [hN] at h0 hl2 hc ⊢
  have hlp : double.leastPlace = -1074 := by decide
  have e1 : max (p + (N.log2 : Int) - (double.fractionBits : Int)) double.leastPlace = i := by
    rw [hl2, hlp, show double.fractionBits = 52 from rfl]
    omega
  unfold Format.nearest
  rw [if_neg h0]
  simp only [e1, hw]
  rw [show (p - i).toNat = 0 by omega, show (i - p).toNat = k by omega, Nat.shiftLeft_zero, hc, bi64, ir64, hlp]
  rw [show (i - -1074).toNat = (i + 1074).toNat by omega]
/-- twice a normal number -/
theorem double_norm {x : Nat} (h : Norm x) (h2 : Norm (x + 4503599627370496)) : floatBits .mul .f64 x 4611686018427387904 = some (x + 4503599627370496) := by
  have hr := read_norm h
  have ht : double.read 4611686018427387904 = .number false 4503599627370496 (-51) := by decide
  obtain ⟨r, er⟩ : ∃ r, x % 4503599627370496 = r := ⟨_, rfl⟩
  obtain ⟨q, eq⟩ : ∃ q, x / 4503599627370496 = q := ⟨_, rfl⟩
  rw [er, eq] at hr
  have hx : x = q * 4503599627370496 + r := by omega
  have hr2 : r < 4503599627370496 := by omega
  have hq : 1 ≤ q := by unfold Norm at h; omega
  have hlog := log_m hr2
  obtain ⟨M, hM⟩ : ∃ M, 4503599627370496 + r = M := ⟨_, rfl⟩
  rw [hM] at hr hlog
  have hn := nearest_at (M := M) (k := 52) (by omega) hlog (i := -1074 + ((q - 1 : Nat) : Int) + 1) (p := -1074 + ((q - 1 : Nat) : Int) + -51) (by omega) (by omega)
  show ((double.read x).product (double.read 4611686018427387904)).map double.write = _
  rw [hr, ht]
  show some (double.nearest (false ^^ false) (M * 4503599627370496) (-1074 + ((q - 1 : Nat) : Int) + -51)) = _
  rw [show (4503599627370496 : Nat) = 2 ^ 52 by decide] at *
  rw [show (false ^^ false) = false from rfl, hn]
  unfold Norm at h2
  congr 1
  omega

/-- half of a normal number -/
theorem half_norm {x : Nat} (h : Norm x) (h2 : 9007199254740992 ≤ x) : floatBits .quo .f64 x 4611686018427387904 = some (x - 4503599627370496) := by
  have hr := read_norm h
  have ht : double.read 4611686018427387904 = .number false 4503599627370496 (-51) := by decide
  obtain ⟨r, er⟩ : ∃ r, x % 4503599627370496 = r := ⟨_, rfl⟩
  obtain ⟨q, eq⟩ : ∃ q, x / 4503599627370496 = q := ⟨_, rfl⟩
  rw [er, eq] at hr
  have hx : x = q * 4503599627370496 + r := by omega
  have hr2 : r < 4503599627370496 := by omega
  have hq : 2 ≤ q := by omega
  have hq2 : q ≤ 2046 := by unfold Norm at h; omega
  have hlog := log_m hr2
  obtain ⟨M, hM⟩ : ∃ M, 4503599627370496 + r = M := ⟨_, rfl⟩
  rw [hM] at hr hlog
  have hB : (4503599627370496 : Nat).log2 = 52 := by decide
  have hdiv : (M <<< 54) / 4503599627370496 = M * 4 := by
    rw [Nat.shiftLeft_eq, show (2 : Nat) ^ 54 = 4 * 4503599627370496 by decide, ← Nat.mul_assoc, Nat.mul_div_cancel _ (by decide)]
  have hmod : (M <<< 54) % 4503599627370496 = 0 := by
    rw [Nat.shiftLeft_eq, show (2 : Nat) ^ 54 = 4 * 4503599627370496 by decide, ← Nat.mul_assoc, Nat.mul_mod_left]
  have hn := nearest_at (M := M) (k := 3) (by omega) hlog (i := -1074 + ((q - 1 : Nat) : Int) - 1) (p := -1074 + ((q - 1 : Nat) : Int) - -51 - 54 - 1) (by omega) (by omega)
  have hqt : (Datum.number false M (-1074 + ((q - 1 : Nat) : Int))).quotient 54 (.number false 4503599627370496 (-51)) = some (.number false (M * 2 ^ 3) (-1074 + ((q - 1 : Nat) : Int) - -51 - 54 - 1)) := by
    unfold Datum.quotient
    obtain ⟨B, eB⟩ : ∃ B : Nat, 4503599627370496 = B := ⟨_, rfl⟩
    have hB0 : ¬ B = 0 := by omega
    rw [eB] at hB hdiv hmod ⊢
    simp only [if_neg hB0, hB, hlog]
    rw [show 54 + 52 - 52 = 54 from rfl, hdiv, hmod]
    rw [show 2 * (M * 4) + ((0 : Nat) != 0).toNat = M * 2 ^ 3 by show 2 * (M * 4) + 0 = _; omega]
    rfl
  show ((double.read x).quotient 54 (double.read 4611686018427387904)).map double.write = _
  rw [hr, ht, hqt]
  show some (double.nearest false (M * 2 ^ 3) (-1074 + ((q - 1 : Nat) : Int) - -51 - 54 - 1)) = _
  rw [hn]
  refine congrArg some ?_
  rw [Nat.min_def]
  split <;> omega

theorem cmp_cast (a b : Nat) : compare (a : Int) (b : Int) = compare a b := by
  show compareOfLessAndEq (a : Int) (b : Int) = compareOfLessAndEq a b
  unfold compareOfLessAndEq
  by_cases h : a < b
  · rw [if_pos h, if_pos (by omega)]
  · rw [if_neg h, if_neg (by omega)]
    by_cases h2 : a = b
    · rw [if_pos h2, if_pos (by omega)]
    · rw [if_neg h2, if_neg (by omega)]
theorem cmp_lt {a b : Nat} (h : a < b) : compare a b = .lt := by
  show compareOfLessAndEq a b = _
  unfold compareOfLessAndEq
  rw [if_pos h]
theorem cmp_gt {a b : Nat} (h : b < a) : compare a b = .gt := by
  show compareOfLessAndEq a b = _
  unfold compareOfLessAndEq
  rw [if_neg (by omega), if_neg (by omega)]
theorem cmp_add (c a b : Nat) : compare (c + a) (c + b) = compare a b := by
  show compareOfLessAndEq (c + a) (c + b) = compareOfLessAndEq a b
  unfold compareOfLessAndEq
  by_cases h : a < b
  · rw [if_pos h, if_pos (by omega)]
  · rw [if_neg h, if_neg (by omega)]
    by_cases h2 : a = b
    · rw [if_pos h2, if_pos (by omega)]
    · rw [if_neg h2, if_neg (by omega)]
/-- words of normal numbers stand as the numbers do -/
theorem order_norm {x y : Nat} (hx : Norm x) (hy : Norm y) : FloatKind.f64.format.order x y = some (compare x y) := by
  have hr := read_norm hx
  have hs := read_norm hy
  obtain ⟨r, er⟩ : ∃ r, x % 4503599627370496 = r := ⟨_, rfl⟩
  obtain ⟨q, eq⟩ : ∃ q, x / 4503599627370496 = q := ⟨_, rfl⟩
  obtain ⟨s, es⟩ : ∃ r, y % 4503599627370496 = r := ⟨_, rfl⟩
  obtain ⟨p, ep⟩ : ∃ q, y / 4503599627370496 = q := ⟨_, rfl⟩
  rw [er, eq] at hr
  rw [es, ep] at hs
  have h1 : x = q * 4503599627370496 + r := by omega
  have h2 : y = p * 4503599627370496 + s := by omega
  have hq : 1 ≤ q := by unfold Norm at hx; omega
  have hp : 1 ≤ p := by unfold Norm at hy; omega
  have hrB : r < 4503599627370496 := by omega
  have hsB : s < 4503599627370496 := by omega
  show (double.read x).order (double.read y) = _
  rw [hr, hs]
  unfold Datum.order
  simp only
  obtain ⟨M, hM⟩ : ∃ M, 4503599627370496 + r = M := ⟨_, rfl⟩
  obtain ⟨N, hN⟩ : ∃ N, 4503599627370496 + s = N := ⟨_, rfl⟩
  rw [hM, hN]
  have sg : ∀ m k : Nat, signed false m k = ((m * 2 ^ k : Nat) : Int) := fun m k => by
    unfold signed
    rw [if_neg (by decide), Nat.shiftLeft_eq]
  rw [sg, sg, cmp_cast]
  refine congrArg some ?_
  rcases Nat.lt_trichotomy q p with h | h | h
  · rw [show (-1074 + ((q - 1 : Nat) : Int) - min (-1074 + ((q - 1 : Nat) : Int)) (-1074 + ((p - 1 : Nat) : Int))).toNat = 0 by omega, show (-1074 + ((p - 1 : Nat) : Int) - min (-1074 + ((q - 1 : Nat) : Int)) (-1074 + ((p - 1 : Nat) : Int))).toNat = (p - q - 1) + 1 by omega, cmp_lt (show x < y by omega)]
    refine cmp_lt ?_
    have h3 : 1 ≤ 2 ^ (p - q - 1) := Nat.pow_pos (by decide)
    rw [Nat.pow_succ, Nat.pow_zero, ← Nat.mul_assoc]
    have h4 : N * 1 ≤ N * 2 ^ (p - q - 1) := Nat.mul_le_mul_left N h3
    omega
  · subst h
    rw [show (-1074 + ((q - 1 : Nat) : Int) - min (-1074 + ((q - 1 : Nat) : Int)) (-1074 + ((q - 1 : Nat) : Int))).toNat = 0 by omega, Nat.pow_zero, Nat.mul_one, Nat.mul_one, h1, h2, ← hM, ← hN, cmp_add, cmp_add]
  · rw [show (-1074 + ((p - 1 : Nat) : Int) - min (-1074 + ((q - 1 : Nat) : Int)) (-1074 + ((p - 1 : Nat) : Int))).toNat = 0 by omega, show (-1074 + ((q - 1 : Nat) : Int) - min (-1074 + ((q - 1 : Nat) : Int)) (-1074 + ((p - 1 : Nat) : Int))).toNat = (q - p - 1) + 1 by omega, cmp_gt (show y < x by omega)]
    refine cmp_gt ?_
    have h3 : 1 ≤ 2 ^ (q - p - 1) := Nat.pow_pos (by decide)
    rw [Nat.pow_succ, Nat.pow_zero, ← Nat.mul_assoc]
    have h4 : M * 1 ≤ M * 2 ^ (q - p - 1) := Nat.mul_le_mul_left M h3
    omega

end Go.Proofs.Ytopeidmafalklaa
