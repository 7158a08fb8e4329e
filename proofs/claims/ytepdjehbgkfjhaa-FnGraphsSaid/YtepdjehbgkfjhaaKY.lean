/-
  Plain: the order of finite float32 words is that of their whole numbers at place -149.
  Conditions: words below infinity.
-/
import Derived.Test.YtepdjehbgkfjhaaFB
namespace Go.Proofs.Ytepdjehbgkfjhaa
open Go.RowKit

/-- a word's number in units of 2^-149 -/
def keyW (x : Nat) : Int := match Ieee.single.read x with
  | .number s m i => Ieee.signed s m (i + 149).toNat
  | _ => 0
theorem signed_up (s : Bool) (m k l : Nat) : Ieee.signed s m (k + l) = Ieee.signed s m k * ((2 ^ l : Nat) : Int) := by
  unfold Ieee.signed
  have e : m <<< (k + l) = m <<< k * 2 ^ l := by rw [Nat.shiftLeft_eq, Nat.shiftLeft_eq, Nat.pow_add, Nat.mul_assoc]
  rw [e]
  cases s
  · simp
  · simp [Int.neg_mul]
theorem cmp_mul (a b : Int) {c : Int} (h : 0 < c) : compare (a * c) (b * c) = compare a b := by
  rcases Int.lt_trichotomy a b with h1 | h1 | h1
  · rw [Int.compare_eq_lt.2 h1, Int.compare_eq_lt.2 (Int.mul_lt_mul_of_pos_right h1 h)]
  · rw [h1]; simp
  · rw [Int.compare_eq_gt.2 h1, Int.compare_eq_gt.2 (Int.mul_lt_mul_of_pos_right h1 h)]
theorem read_fin {x : Nat} (h : x % 2147483648 < 2139095040) : ∃ s m i, Ieee.single.read x = .number s m i ∧ -149 ≤ i := by
  unfold Ieee.Format.read
  dsimp only
  rw [sw32, bi32, ir32]
  have el : Ieee.single.leastPlace = -149 := by decide
  rw [el]
  split
  · exact ⟨_, _, _, rfl, Int.le_refl _⟩
  · rename_i h1
    refine ⟨_, _, _, rfl, ?_⟩
    have h5 : 1 ≤ x % 2147483648 / 8388608 := by omega
    omega
theorem order_key {x y : Nat} (hx : x % 2147483648 < 2139095040) (hy : y % 2147483648 < 2139095040) :
    FloatKind.f32.format.order x y = some (compare (keyW x) (keyW y)) := by
  obtain ⟨s, m, i, e1, h1⟩ := read_fin hx
  obtain ⟨t, n, j, e2, h2⟩ := read_fin hy
  show Ieee.Datum.order (Ieee.single.read x) (Ieee.single.read y) = _
  unfold keyW
  rw [e1, e2]
  show some (compare (Ieee.signed s m (i - min i j).toNat) (Ieee.signed t n (j - min i j).toNat)) = _
  obtain ⟨base, hb⟩ : ∃ base, min i j = base := ⟨_, rfl⟩
  rw [hb]
  have hbl : -149 ≤ base ∧ base ≤ i ∧ base ≤ j := by omega
  have a1 : (i + 149).toNat = (i - base).toNat + (base + 149).toNat := by omega
  have a2 : (j + 149).toNat = (j - base).toNat + (base + 149).toNat := by omega
  dsimp only
  rw [a1, a2, signed_up, signed_up, cmp_mul _ _ (by have : (0 : Nat) < 2 ^ (base + 149).toNat := Nat.pow_pos (by decide); omega)]
theorem low_fin32 {a x : Nat} (ha : a ≤ 128) (h : Low a x) : x % 2147483648 < 2139095040 := by
  unfold Low at h
  have : (a + 127) * 8388608 ≤ 255 * 8388608 := Nat.mul_le_mul_right _ (by omega)
  omega

end Go.Proofs.Ytepdjehbgkfjhaa
