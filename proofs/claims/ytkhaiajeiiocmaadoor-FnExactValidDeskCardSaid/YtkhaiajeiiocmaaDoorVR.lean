/-
  Plain: a sum of chances lies near 1 by its absolute difference, or by both differences (32 bit floats).
  Conditions: none.
-/
import Derived.Test.YtkhaiajeiiocmaaDoorF
namespace Go.Proofs.YtkhaiajeiiocmaaDoor
open Ieee

def setNeg (n : Bool) : Datum → Datum
  | .number _ m e => .number n m e
  | .infinity _ => .infinity n
  | d => d
theorem read_word32 (n : Bool) (R : Nat) (h : R ≤ 2139095040) : single.read (single.word n R) = setNeg n (single.read R) := by
  have hm : single.word n R % 2147483648 = R := by cases n <;> simp [Format.word, sw32] <;> omega
  have hd : single.word n R / 2147483648 % 2 = n.toNat := by cases n <;> simp [Format.word, sw32] <;> omega
  have hd0 : R / 2147483648 % 2 = 0 := by omega
  have hm0 : R % 2147483648 = R := by omega
  unfold Format.read
  simp only [sw32, bi32, ir32, hm, hd, hm0, hd0]
  by_cases h1 : R < 8388608
  · simp only [h1, if_true, setNeg]
    cases n <;> rfl
  · by_cases h2 : R < 2139095040
    · simp only [h1, h2, if_true, if_false, setNeg]
      cases n <;> rfl
    · have h3 : R = 2139095040 := by omega
      simp only [h3, if_true, setNeg]
      cases n <;> rfl
/-- how 32 bit words stand to 0.001, at most -/
def leC (x : Nat) : Bool := FloatKind.f32.format.order x 981668463 == some .lt || FloatKind.f32.format.order x 981668463 == some .eq
def lt0 (x : Nat) : Bool := FloatKind.f32.format.order x 0 == some .lt
theorem read_c : single.read 981668463 = .number false 8589935 (-33) := by decide
theorem read_z : single.read 0 = .number false 0 (-149) := by decide
theorem read_rung32 (R : Nat) (h : R ≤ 2139095040) : (∃ m e, single.read R = .number false m e ∧ (m = 0 ↔ R = 0)) ∨ single.read R = .infinity false := by
  have hd0 : R / 2147483648 % 2 = 0 := by omega
  have hm0 : R % 2147483648 = R := by omega
  unfold Format.read
  simp only [sw32, bi32, ir32, hm0, hd0]
  by_cases h1 : R < 8388608
  · simp only [h1, if_true]
    exact .inl ⟨_, _, rfl, Iff.rfl⟩
  · by_cases h2 : R < 2139095040
    · simp only [h1, h2, if_true, if_false]
      exact .inl ⟨_, _, rfl, by omega⟩
    · have h3 : R = 2139095040 := by omega
      simp only [h3, if_true]
      exact .inr rfl
theorem sg (m k : Nat) : ∃ N : Nat, signed true m k = -(N : Int) ∧ signed false m k = (N : Int) ∧ (N = 0 ↔ m = 0) := by
  refine ⟨m * 2 ^ k, ?_, ?_, ?_⟩
  · simp [signed, Nat.shiftLeft_eq]
  · simp [signed, Nat.shiftLeft_eq]
  · have := Nat.pow_pos (n := k) (show 0 < 2 by decide)
    rw [Nat.mul_eq_zero]
    omega
theorem leC_neg (R : Nat) (h : R ≤ 2139095040) : leC (single.word true R) = true := by
  have hc : (FloatKind.f32.format.order (single.word true R) 981668463) = some .lt := by
    show Datum.order (single.read (single.word true R)) (single.read 981668463) = some .lt
    rw [read_word32 true R h, read_c]
    rcases read_rung32 R h with ⟨m, e, hr, _⟩ | hr
    · rw [hr]
      obtain ⟨N, h1, _, _⟩ := sg m (e - min e (-33)).toNat
      obtain ⟨K, _, h2, h3⟩ := sg 8589935 (-33 - min e (-33)).toNat
      have : compare (signed true m (e - min e (-33)).toNat) (signed false 8589935 (-33 - min e (-33)).toNat) = .lt := by
        rw [h1, h2]
        exact Int.compare_eq_lt.2 (by omega)
      exact congrArg some this
    · rw [hr]; rfl
  unfold leC
  rw [hc]
  rfl
theorem lt0_word (n : Bool) (R : Nat) (h : R ≤ 2139095040) : lt0 (single.word n R) = (n && decide (R ≠ 0)) := by
  show (Datum.order (single.read (single.word n R)) (single.read 0) == some .lt) = _
  rw [read_word32 n R h, read_z]
  rcases read_rung32 R h with ⟨m, e, hr, hz⟩ | hr
  · rw [hr]
    obtain ⟨N, h1, h1f, h0⟩ := sg m (e - min e (-149)).toNat
    obtain ⟨K, _, h2, h3⟩ := sg 0 (-149 - min e (-149)).toNat
    have hK : K = 0 := h3.2 rfl
    subst hK
    show (some (compare (signed n m (e - min e (-149)).toNat) (signed false 0 (-149 - min e (-149)).toNat)) == some .lt) = _
    rw [h2]
    cases n
    · rw [h1f]
      have : compare (N : Int) ((0 : Nat) : Int) ≠ .lt := fun hh => by
        have := Int.compare_eq_lt.1 hh
        omega
      simpa using this
    · rw [h1]
      by_cases hR : R = 0
      · have hN : N = 0 := h0.2 (hz.2 hR)
        subst hN
        rw [hR]
        rfl
      · have hN : N ≠ 0 := fun hh => hR (hz.1 (h0.1 hh))
        have : compare (-(N : Int)) ((0 : Nat) : Int) = .lt := Int.compare_eq_lt.2 (by omega)
        rw [this]
        simp [hR]
  · rw [hr]
    have hR : R ≠ 0 := fun hh => by subst hh; exact absurd hr (by decide)
    cases n
    · rfl
    · simp [hR]
      rfl
theorem neg_word (R : Nat) (h : R ≤ 2139095040) : Op.negFloat .f32 (single.word true R) = single.word false R := by
  show single.word true R ^^^ 2 ^ 31 = R
  have e1 : single.word true R = 2 ^ 31 + R := by simp [Format.word, sw32]
  rw [e1]
  apply Nat.eq_of_testBit_eq
  intro i
  rw [Nat.testBit_xor, Nat.testBit_two_pow]
  by_cases hi : i = 31
  · subst hi
    rw [Nat.testBit_two_pow_add_eq]
    simp
  · by_cases hlt : i < 31
    · rw [Nat.testBit_two_pow_add_gt hlt]
      simp [show ¬ 31 = i by omega]
    · have b1 : 2 ^ 31 + R < 2 ^ i := Nat.lt_of_lt_of_le (show 2 ^ 31 + R < 2 ^ 32 by omega) (Nat.pow_le_pow_right (by decide) (by omega))
      have b2 : R < 2 ^ i := by omega
      rw [Nat.testBit_lt_two_pow b1, Nat.testBit_lt_two_pow b2]
      simp [show ¬ 31 = i by omega]
theorem nearest_word (m : Nat) (p : Int) : ∃ R, R ≤ 2139095040 ∧ ∀ n, single.nearest n m p = single.word n R := by
  by_cases hm : m = 0
  · exact ⟨0, by omega, fun n => by unfold Format.nearest; rw [if_pos hm]⟩
  · refine ⟨min (((max (p + (m.log2 : Int) - (single.fractionBits : Int)) single.leastPlace) - single.leastPlace).toNat * single.binade + Toward.even.cut false (m <<< (p - max (p + (m.log2 : Int) - (single.fractionBits : Int)) single.leastPlace).toNat) (max (p + (m.log2 : Int) - (single.fractionBits : Int)) single.leastPlace - p).toNat) single.infRung, ?_, fun n => by unfold Format.nearest; rw [if_neg hm]; rfl⟩
    rw [ir32]
    exact Nat.min_le_right _ _
theorem zero_word (p : Int) (n : Bool) : single.nearest n 0 p = single.word n 0 := by
  unfold Format.nearest
  rw [if_pos rfl]
theorem sub_words {b : Nat} (hb : nanB .f32 b = false) : ∃ R n1 n2, R ≤ 2139095040 ∧ single.sub b 1065353216 = some (single.word n1 R) ∧ single.sub 1065353216 b = some (single.word n2 R) ∧ (n2 = !n1 ∨ R = 0) := by
  have ho : single.read 1065353216 = .number false 8388608 (-23) := by decide
  unfold Format.sub
  rw [ho]
  have hnn : (single.read b).isNaN = false := hb
  cases hA : single.read b with
  | nan s t => rw [hA] at hnn; cases hnn
  | infinity s => exact ⟨2139095040, s, !s, by omega, by simp [Datum.opposite, Datum.sum, Format.write, ir32], by simp [Datum.opposite, Datum.sum, Format.write, ir32], .inl rfl⟩
  | number s m i =>
    simp only [Datum.opposite, Datum.sum, Option.map_some, Format.write]
    have hmin : min (-23) i = min i (-23) := by omega
    rw [hmin]
    obtain ⟨N, n1, n2, _⟩ := sg m (i - min i (-23)).toNat
    obtain ⟨K, k1, k2, _⟩ := sg 8388608 (-23 - min i (-23)).toNat
    have ht : signed false 8388608 (-23 - min i (-23)).toNat + signed (!s) m (i - min i (-23)).toNat = -(signed s m (i - min i (-23)).toNat + signed true 8388608 (-23 - min i (-23)).toNat) := by
      cases s
      · rw [k2, k1]; simp only [Bool.not_false]; rw [n1, n2]; omega
      · rw [k2, k1]; simp only [Bool.not_true]; rw [n1, n2]; omega
    simp only [Bool.not_false]
    rw [ht]
    generalize signed s m (i - min i (-23)).toNat + signed true 8388608 (-23 - min i (-23)).toNat = t
    rw [Int.natAbs_neg]
    obtain ⟨R, hR, hw⟩ := nearest_word t.natAbs (min i (-23))
    by_cases h0 : t = 0
    · subst h0
      exact ⟨0, _, _, by omega, by rw [if_pos rfl]; exact congrArg some (zero_word _ _), by rw [if_pos (by omega)]; exact congrArg some (zero_word _ _), .inr rfl⟩
    · refine ⟨R, decide (t < 0), decide (-t < 0), hR, ?_, ?_, .inl ?_⟩
      · rw [if_neg h0]; exact congrArg some (hw _)
      · rw [if_neg (by omega)]; exact congrArg some (hw _)
      · rw [Bool.eq_iff_iff]; simp; omega
/-- near 1, by the absolute difference -/
def nearA (b : Nat) : Bool := match single.sub b 1065353216 with | some x => leC (if lt0 x then Op.negFloat .f32 x else x) | none => false
/-- near 1, by both differences -/
def nearB2 (b : Nat) : Bool := match single.sub b 1065353216, single.sub 1065353216 b with | some x, some y => leC x && leC y | _, _ => false
theorem near_same {b : Nat} (hb : nanB .f32 b = false) : nearA b = nearB2 b := by
  obtain ⟨R, n1, n2, hR, h1, h2, h3⟩ := sub_words hb
  unfold nearA nearB2
  rw [h1, h2]
  show leC (if lt0 (single.word n1 R) then Op.negFloat .f32 (single.word n1 R) else single.word n1 R) = (leC (single.word n1 R) && leC (single.word n2 R))
  rw [lt0_word n1 R hR]
  have hz : ∀ n, leC (single.word n 0) = true := by intro n; cases n <;> decide
  by_cases hR0 : R = 0
  · subst hR0
    simp [hz]
  · have h4 : n2 = !n1 := by rcases h3 with h | h; exact h; exact absurd h hR0
    subst h4
    cases n1
    · simp only [Bool.false_and, Bool.not_false, leC_neg R hR, Bool.and_true, Bool.false_eq_true, if_false]
    · simp only [Bool.true_and, decide_eq_true hR0, Bool.not_true, leC_neg R hR, if_true, neg_word R hR]
end Go.Proofs.YtkhaiajeiiocmaaDoor
